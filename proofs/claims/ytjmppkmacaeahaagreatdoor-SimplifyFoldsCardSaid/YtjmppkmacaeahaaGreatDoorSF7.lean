/- Parts of the proof, one behind the other. -/
import Derived.Test.YtjmppkmacaeahaaGreatDoorSF6
import Derived.Test.YtjmppkmacaeahaaGreatDoorSF4
import Derived.Test.YtjmppkmacaeahaaGreatDoorSF5
set_option linter.all false
namespace Go.Proofs.YtjmppkmacaeahaaGreatDoor.Fi
open Go.FI
theorem d_SV {P:Prop} (h:P:=by first|omega|(simp only[EVL]<;>omega)|(simp only[hget_c,Nat.reduceEqDiff,↓reduceIte];done)|assumption|(simp (disch:=omega) only[hg_ne,hg_eq,hgs_ne, *];done)|(simp only [TL];done)|with_unfolding_all rfl):P:=h
theorem visit_loop {α β:Type} (f id b0:Nat) (caps:List FV) (g:α→Te→α ⊕ β) (P:α→Heap→Prop) (Q:β→Heap→Prop) (hP:Keeps b0 P) (e:Bool) (l:List Te) (hlen:l.length ≤ 1000000)
  (ih:∀ t ∈ l,∀ a h nx,b0 ≤ nx→P a h→∃ r,lim T 72 [.agg [.int .u8 (t).k,.int .i64 (t).w,.int .u64 (t).b,.str (t).s,.int .i64 (t).lo,.lst (t).e ((t).l.map tV)],.yl f id caps] h nx=some r∧ResR b0 h nx P Q r (foldE g a (nodesT t))):∀ (k i:Nat) (a:α) (h:Heap) (nx:Nat),i + k=l.length→b0 ≤ nx→P a h →
  @Ok Out (runs T [.code b72_0,.inL none b72_0,.inB 0,.code k72_1] [(1,.yl f id caps),(12,.lst e (l.map tV)),(13,.int .i64 l.length),(14,.int .i64 i)] h nx)
   ⟨fun x=>@Ok FV (finV c72.res x) ⟨fun v=>ResR b0 h nx P Q (v,x.2.2.1,x.2.2.2) (foldE g a (nodesL (l.drop i)))⟩⟩:=by
 intro k
 induction k with
 |zero =>
  intro i a h nx hi hb hp
  have:¬ (i:Int) < l.length:=by omega
  simp (disch:=first | exact d_SV | fail) only [unf b72_0.eq_1,unf k72_1.eq_1,c72,this,TL,EVS,Nat.reduceAdd,Nat.reduceSub,Int.reduceToNat,Nat.reduceMul,Nat.reduceEqDiff,Nat.reduceLeDiff,Int.reduceEq,Int.reduceLT,Int.reduceLE,↓reduceIte]
  rw [List.drop_eq_nil_of_le (by omega)]
  exact ⟨rfl,hp,Fr.up (by dsimp only;omega) fun _ _=>rfl⟩
 |succ k ihk =>
  intro i a h nx hi hb hp
  have:(i:Int) < l.length:=by omega
  simp (disch:=first | exact d_SV | fail) only [unf b72_0.eq_1,c72,this,TL,EVS,Nat.reduceAdd,Nat.reduceSub,Int.reduceToNat,Nat.reduceMul,Nat.reduceEqDiff,Nat.reduceLeDiff,Int.reduceEq,Int.reduceLT,Int.reduceLE,↓reduceIte]
  rw [drop_getD (show i < l.length by omega),nodesL_cons,foldE_app]
  refine Ok_call (ih _ (getD_mem (d:=default) (show i < l.length by omega)) a _ _ (by omega) (hP _ _ _ hp fun j hj=>?_)) fun r hr=>?_
  ·simp (disch:=omega) only [hg_ne,hgs_ne]
  obtain ⟨v,h',nx'⟩:=r
  have hfr:∀ {s:α ⊕ β},ResR b0 ((nx + 1 + 1 + 1,Obj.row 6 [.agg [.int .u8 (l.getD i default).k,.int .i64 (l.getD i default).w,.int .u64 (l.getD i default).b,.str (l.getD i default).s,.int .i64 (l.getD i default).lo,.lst (l.getD i default).e ((l.getD i default).l.map tV)]])::h) (nx + 1 + 4 + 4) P Q (v,h',nx') s→Fr b0 h h' nx nx':=fun {s} hr=>by
   cases s with
   |inl a=>exact hr.2.2.ext (by omega) fun j hj=>hg_ne (by omega)
   |inr a=>exact hr.2.2.ext (by omega) fun j hj=>hg_ne (by omega)
  cases hg:foldE g a (nodesT (l.getD i default)) with
  |inl a' =>
   rw [hg] at hr
   have hf:=hfr hr
   obtain ⟨rfl,hp',_⟩:=hr
   refine ⟨rfl,?_⟩
   simp (disch:=first | exact d_SV | fail) only [c72,EVS,Nat.reduceAdd,Nat.reduceSub,Int.reduceToNat,Nat.reduceMul,Nat.reduceEqDiff,Nat.reduceLeDiff,Int.reduceEq,Int.reduceLT,Int.reduceLE,↓reduceIte]
   exact Ok_inL0 (Ok_post (ihk (i + 1) a' h' _ (by omega) (by have:=hf.1;omega) hp') fun _ _ hq=>hq.base (hf.trans (Fr.up (by omega) fun _ _=>rfl)))
  |inr b =>
   rw [hg] at hr
   have hf:=hfr hr
   obtain ⟨rfl,hp',_⟩:=hr
   refine ⟨rfl,?_⟩
   simp (disch:=first | exact d_SV | fail) only [c72,EVS,Nat.reduceAdd,Nat.reduceSub,Int.reduceToNat,Nat.reduceMul,Nat.reduceEqDiff,Nat.reduceLeDiff,Int.reduceEq,Int.reduceLT,Int.reduceLE,↓reduceIte]
   exact ⟨rfl,hp',hf.trans (Fr.up (by dsimp only;omega) fun _ _=>rfl)⟩
theorem visit_spec {α β:Type} (f id b0:Nat) (caps:List FV) (g:α→Te→α ⊕ β) (P:α→Heap→Prop) (Q:β→Heap→Prop) (hP:Keeps b0 P) (t:Te) (hlen:size t ≤ 1000000)
  (step:∀ x ∈ nodesT t,∀ a h nx,b0 ≤ nx→P a h→∃ r,lim T f [.yl f id caps,.agg [.int .u8 (x).k,.int .i64 (x).w,.int .u64 (x).b,.str (x).s,.int .i64 (x).lo,.lst (x).e ((x).l.map tV)]] h nx=some r∧ResR b0 h nx P Q r (g a x)):∀ a h nx,b0 ≤ nx→P a h →
  ∃ r,lim T 72 [.agg [.int .u8 (t).k,.int .i64 (t).w,.int .u64 (t).b,.str (t).s,.int .i64 (t).lo,.lst (t).e ((t).l.map tV)],.yl f id caps] h nx=some r∧ResR b0 h nx P Q r (foldE g a (nodesT t)):=by
 induction t using Tm'.ind with
 |h t ih =>
 intro a h nx hb hp
 rw [lim_shr tg72 rfl rfl]
 have hs:∀ x ∈ nodesL t.l,x ∈ nodesT t:=fun x hx=>by rw [nodes_eq];exact List.mem_cons_of_mem _ hx
 have ih':∀ x ∈ t.l,∀ a h nx,b0 ≤ nx→P a h→∃ r,lim T 72 [.agg [.int .u8 (x).k,.int .i64 (x).w,.int .u64 (x).b,.str (x).s,.int .i64 (x).lo,.lst (x).e ((x).l.map tV)],.yl f id caps] h nx=some r∧ResR b0 h nx P Q r (foldE g a (nodesT x)):=fun x hx =>
  ih x hx (by have:=size_mem hx;omega) fun y hy=>step y (hs y (nodesL_mem hx hy))
 rw [nodes_eq,foldE]
 suffices hh:@Ok Out (runs T [.code c72.body] (params 0 [.agg [.int .u8 (t).k,.int .i64 (t).w,.int .u64 (t).b,.str (t).s,.int .i64 (t).lo,.lst (t).e ((t).l.map tV)],.yl f id caps]) h nx) ⟨fun x=>@Ok FV (finV c72.res x) ⟨fun v=>ResR b0 h nx P Q (v,x.2.2.1,x.2.2.2) (match g a t with | .inl a'=>foldE g a' (nodesL t.l) | .inr b=>.inr b)⟩⟩ by
  obtain ⟨x,h1,v,h2,h3⟩:=hh
  exact ⟨(v,x.2.2.1,x.2.2.2),by rw [h1,B_some,h2,B_some],h3⟩
 simp (disch:=first | exact d_SV | fail) only [c72,EVS,Nat.reduceAdd,Nat.reduceSub,Int.reduceToNat,Nat.reduceMul,Nat.reduceEqDiff,Nat.reduceLeDiff,Int.reduceEq,Int.reduceLT,Int.reduceLE,↓reduceIte]
 refine Ok_call (step t (by rw [nodes_eq];simp) a _ _ (by omega) (hP _ _ _ hp fun j hj=>?_)) fun r hr=>?_
 ·simp (disch:=omega) only [hg_ne]
 obtain ⟨v,h',nx'⟩:=r
 have hfr:∀ {s:α ⊕ β},ResR b0 ((nx,Obj.row 6 [.agg [.int .u8 (t).k,.int .i64 (t).w,.int .u64 (t).b,.str (t).s,.int .i64 (t).lo,.lst (t).e ((t).l.map tV)]])::h) (nx + 2 + 4) P Q (v,h',nx') s→Fr b0 h h' nx nx'∧(b0 ≤ nx→hget h' nx=some (Obj.row 6 [.agg [.int .u8 (t).k,.int .i64 (t).w,.int .u64 (t).b,.str (t).s,.int .i64 (t).lo,.lst (t).e ((t).l.map tV)]])):=fun {s} hr=>by
  cases s with
  |inl a=>exact ⟨hr.2.2.ext (by omega) fun j hj=>hg_ne (by omega),fun hb=>(hr.2.2.2 nx hb (by omega)).trans hg_eq⟩
  |inr a=>exact ⟨hr.2.2.ext (by omega) fun j hj=>hg_ne (by omega),fun hb=>(hr.2.2.2 nx hb (by omega)).trans hg_eq⟩
 obtain ⟨hf,hgt⟩:=hfr hr
 have hgt:=hgt hb
 cases hg:g a t with
 |inl a' =>
  rw [hg] at hr
  obtain ⟨rfl,hp',_⟩:=hr
  refine ⟨rfl,?_⟩
  have hsz:=sizes_len t.l
  rw [size_eq] at hlen
  simp (disch:=first | exact d_SV | fail) only [c72,hgt,EVS,Nat.reduceAdd,Nat.reduceSub,Int.reduceToNat,Nat.reduceMul,Nat.reduceEqDiff,Nat.reduceLeDiff,Int.reduceEq,Int.reduceLT,Int.reduceLE,↓reduceIte]
  have hll:t.l.length ≤ 1000000:=by omega
  exact Ok_post (visit_loop f id b0 caps g P Q hP t.e t.l hll ih' t.l.length 0 a' h' _ (by omega) (by have:=hf.1;omega) hp') fun _ _ hq=>hq.base (hf.trans (Fr.up (by omega) fun _ _=>rfl))
 |inr b =>
  rw [hg] at hr
  obtain ⟨rfl,hp',_⟩:=hr
  refine ⟨rfl,?_⟩
  simp (disch:=first | exact d_SV | fail) only [c72,hgt,EVS,Nat.reduceAdd,Nat.reduceSub,Int.reduceToNat,Nat.reduceMul,Nat.reduceEqDiff,Nat.reduceLeDiff,Int.reduceEq,Int.reduceLT,Int.reduceLE,↓reduceIte]
  exact ⟨rfl,hp',hf.trans (Fr.up (by dsimp only;omega) fun _ _=>rfl)⟩
theorem nodes_spec (t:Te):∀ h nx,lim T 42 [.agg [.int .u8 (t).k,.int .i64 (t).w,.int .u64 (t).b,.str (t).s,.int .i64 (t).lo,.lst (t).e ((t).l.map tV)]] h nx=some (.fn 71 [.eptr [.int .u8 t.k,.int .i64 t.w,.int .u64 t.b,.str t.s,.int .i64 t.lo,.lst t.e (t.l.map tV)] 0],h,nx):=by
 refine lim_iso tg42 rfl rfl (by simp [pures,pure_,pu_Ts]) ?_
 simp (disch:=first | exact d_SV | fail) only [c42,TL,elemAt_r hg_eq,EVS,Nat.reduceAdd,Nat.reduceSub,Int.reduceToNat,Nat.reduceMul,Nat.reduceEqDiff,Nat.reduceLeDiff,Int.reduceEq,Int.reduceLT,Int.reduceLE,↓reduceIte]
def ResW {α β:Type} (b0:Nat) (h:Heap) (nx:Nat) (P:α→Heap→Prop) (Q:β→Heap→Prop) (r:FV × Heap × Nat):α ⊕ β→Prop
 |.inl a=>r.1=.tup []∧P a r.2.1∧Fr b0 h r.2.1 nx r.2.2
 |.inr b=>r.1=.tup []∧Q b r.2.1∧Fr b0 h r.2.1 nx r.2.2
theorem walk_spec {α β:Type} (f id b0:Nat) (caps:List FV) (g:α→Te→α ⊕ β) (P:α→Heap→Prop) (Q:β→Heap→Prop) (hP:Keeps b0 P) (t:Te) (hlen:size t ≤ 1000000)
  (step:∀ x ∈ nodesT t,∀ a h nx,b0 ≤ nx→P a h→∃ r,lim T f [.yl f id caps,.agg [.int .u8 (x).k,.int .i64 (x).w,.int .u64 (x).b,.str (x).s,.int .i64 (x).lo,.lst (x).e ((x).l.map tV)]] h nx=some r∧ResR b0 h nx P Q r (g a x)):∀ a h nx,b0 ≤ nx→P a h →
  ∃ r,lim T 71 [.yl f id caps,.eptr [.int .u8 t.k,.int .i64 t.w,.int .u64 t.b,.str t.s,.int .i64 t.lo,.lst t.e (t.l.map tV)] 0] h nx=some r∧ResW b0 h nx P Q r (foldE g a (nodesT t)):=by
 intro a h nx hb hp
 rw [lim_shr tg71 rfl rfl]
 suffices hh:@Ok Out (runs T [.code c71.body] (params 0 [.yl f id caps,.eptr [.int .u8 t.k,.int .i64 t.w,.int .u64 t.b,.str t.s,.int .i64 t.lo,.lst t.e (t.l.map tV)] 0]) h nx) ⟨fun x=>@Ok FV (finV c71.res x) ⟨fun v=>ResW b0 h nx P Q (v,x.2.2.1,x.2.2.2) (foldE g a (nodesT t))⟩⟩ by
  obtain ⟨x,h1,v,h2,h3⟩:=hh
  exact ⟨(v,x.2.2.1,x.2.2.2),by rw [h1,B_some,h2,B_some],h3⟩
 simp (disch:=first | exact d_SV | fail) only [c71,EVS,Nat.reduceAdd,Nat.reduceSub,Int.reduceToNat,Nat.reduceMul,Nat.reduceEqDiff,Nat.reduceLeDiff,Int.reduceEq,Int.reduceLT,Int.reduceLE,↓reduceIte]
 refine Ok_call (visit_spec f id b0 caps g P Q hP t hlen step a _ _ (by omega) hp) fun r hr=>?_
 obtain ⟨v,h',nx'⟩:=r
 cases hg:foldE g a (nodesT t) with
 |inl a' =>
  rw [hg] at hr
  obtain ⟨rfl,hp',hf⟩:=hr
  refine ⟨rfl,?_⟩
  simp (disch:=first | exact d_SV | fail) only [c71,EVS,Nat.reduceAdd,Nat.reduceSub,Int.reduceToNat,Nat.reduceMul,Nat.reduceEqDiff,Nat.reduceLeDiff,Int.reduceEq,Int.reduceLT,Int.reduceLE,↓reduceIte]
  exact ⟨rfl,hp',hf.ext (by omega) fun _ _=>rfl⟩
 |inr b =>
  rw [hg] at hr
  obtain ⟨rfl,hp',hf⟩:=hr
  refine ⟨rfl,?_⟩
  simp (disch:=first | exact d_SV | fail) only [c71,EVS,Nat.reduceAdd,Nat.reduceSub,Int.reduceToNat,Nat.reduceMul,Nat.reduceEqDiff,Nat.reduceLeDiff,Int.reduceEq,Int.reduceLT,Int.reduceLE,↓reduceIte]
  exact ⟨rfl,hp',hf.ext (by omega) fun _ _=>rfl⟩
theorem d_Q1 {P:Prop} (h:P:=by first|omega|(simp only[EVL]<;>omega)|(simp only[hget_c,Nat.reduceEqDiff,↓reduceIte];done)|assumption|(simp (disch:=omega) only[hg_ne,hg_eq,hgs_ne, *];done)|(simp only [rb_len];done)|with_unfolding_all rfl):P:=h
theorem cmp_spec (p q:Bd):∀ h nx,lim T 46 [.agg [.str p.1,.int .i64 p.2,.int .u64 0],.agg [.str q.1,.int .i64 q.2,.int .u64 0]] h nx=some (.int .i64 (Go.Lib.compareBytes p.1 q.1),h,nx):=by
 have a:∀ h nx,lim T 64 [.str p.1,.str q.1] h nx=some (.int .i64 (Go.Lib.compareBytes p.1 q.1),h,nx):=by
  refine lim_iso tg64 rfl rfl rfl ?_
  simp (disch:=first | exact d_Q1 | fail) only [c64,EVS,Nat.reduceAdd,Nat.reduceSub,Int.reduceToNat,Nat.reduceMul,Nat.reduceEqDiff,Nat.reduceLeDiff,Int.reduceEq,Int.reduceLT,Int.reduceLE,↓reduceIte]
 have b:∀ h nx,lim T 40 [.str p.1,.str q.1] h nx=some (.int .i64 (Go.Lib.compareBytes p.1 q.1),h,nx):=by
  refine lim_iso tg40 rfl rfl rfl ?_
  simp (disch:=first | exact d_Q1 | fail) only [c40,a,EVS,Nat.reduceAdd,Nat.reduceSub,Int.reduceToNat,Nat.reduceMul,Nat.reduceEqDiff,Nat.reduceLeDiff,Int.reduceEq,Int.reduceLT,Int.reduceLE,↓reduceIte]
 refine lim_iso tg46 rfl rfl rfl ?_
 simp (disch:=first | exact d_Q1 | fail) only [c46,b,EVS,Nat.reduceAdd,Nat.reduceSub,Int.reduceToNat,Nat.reduceMul,Nat.reduceEqDiff,Nat.reduceLeDiff,Int.reduceEq,Int.reduceLT,Int.reduceLE,↓reduceIte]
theorem insInner_step (id n:Nat) (B I:Int) (a:Nat) (Q:Post Out):∀ (j:Nat) (d:Array Bd) (h:Heap) (nx:Nat),j < d.size→d.size=n→n ≤ 1000000→hget h id=some (rowB d) →
  (∀ h' nx' (j':Nat),nx ≤ nx'→RowR h id (Go.Sort.insInner ltB a j d) h'→@Ok Out (runs T [.code k125_1,.inL none b125_2,.inB 0] [(0,.sref 3 id n 0 n),(1,.int .i64 a),(2,.int .i64 B),(3,.fn 46 []),(8,.int .i64 I),(9,.int .i64 j'),(34,.bool false)] h' nx') Q) →
  @Ok Out (runs T [.code b125_0,.inL none b125_0,.inB 2,.inB 1,.code k125_1,.inL none b125_2,.inB 0] [(0,.sref 3 id n 0 n),(1,.int .i64 a),(2,.int .i64 B),(3,.fn 46 []),(8,.int .i64 I),(9,.int .i64 j)] h nx) Q:=by
 intro j
 induction j with
 |zero =>
  intro d h nx hj hn hN hr next
  have h1:decide ((a:Int) < ((0:Nat):Int))=false:=by simp
  simp (disch:=first | exact d_Q1 | fail) only [unf b125_0.eq_1,c125,h1,EVS,Nat.reduceAdd,Nat.reduceSub,Int.reduceToNat,Nat.reduceMul,Nat.reduceEqDiff,Nat.reduceLeDiff,Int.reduceEq,Int.reduceLT,Int.reduceLE,↓reduceIte]
  exact next _ _ 0 (by omega) (.refl hr)
 |succ j ih =>
  intro d h nx hj hn hN hr next
  have e1:((j + 1:Nat):Int) - 1=(j:Nat):=by omega
  by_cases ha:a < j + 1
  ·have h1:decide ((a:Int) < ((j + 1:Nat):Int))=true:=by simp;omega
   have hr':=hr
   rw [row_of] at hr'
   cases hb:ltB d[j + 1]! d[j]! with
   |false =>
    simp (disch:=first | exact d_Q1 | fail) only [unf b125_0.eq_1,c125,cmp_spec,hr',SR,h1,e1,ltB_eq,hb,EVS,Nat.reduceAdd,Nat.reduceSub,Int.reduceToNat,Nat.reduceMul,Nat.reduceEqDiff,Nat.reduceLeDiff,Int.reduceEq,Int.reduceLT,Int.reduceLE,↓reduceIte]
    exact next _ _ (j + 1) (by omega) (.refl (by rw [Go.Sort.insInner,if_neg (by simp [hb])];exact hr))
   |true =>
    simp (disch:=first | exact d_Q1 | fail) only [unf b125_0.eq_1,c125,cmp_spec,hr',SR,h1,e1,ltB_eq,hb,EVS,Nat.reduceAdd,Nat.reduceSub,Int.reduceToNat,Nat.reduceMul,Nat.reduceEqDiff,Nat.reduceLeDiff,Int.reduceEq,Int.reduceLT,Int.reduceLE,↓reduceIte]
    exact Ok_inL0 (ih (Go.Sort.swp d (j + 1) j) _ _ (by rw [sz_swp];omega) (by rw [sz_swp];omega) hN (hgs_eq hr) (fun h' nx' j' hn' hx=>next _ _ _ (by omega) (by rw [Go.Sort.insInner,if_pos (by simp [hb];omega)];exact (RowR.one hr).trans hx)))
  ·have h1:decide ((a:Int) < ((j + 1:Nat):Int))=false:=by simp;omega
   simp (disch:=first | exact d_Q1 | fail) only [unf b125_0.eq_1,c125,h1,EVS,Nat.reduceAdd,Nat.reduceSub,Int.reduceToNat,Nat.reduceMul,Nat.reduceEqDiff,Nat.reduceLeDiff,Int.reduceEq,Int.reduceLT,Int.reduceLE,↓reduceIte]
   exact next _ _ (j + 1) (by omega) ⟨by rw [Go.Sort.insInner,if_neg (by simp;omega)];exact hr,fun _ _=>rfl⟩
theorem insOuter_step (id n a b:Nat) (hb:b ≤ n) (hN:n ≤ 1000000):∀ (k i:Nat) (d:Array Bd) (h:Heap) (nx:Nat),b ≤ i + k→d.size=n→hget h id=some (rowB d) →
  @Ok Out (runs T [.code b125_2,.inL none b125_2,.inB 0] [(0,.sref 3 id n 0 n),(1,.int .i64 a),(2,.int .i64 b),(3,.fn 46 []),(8,.int .i64 i)] h nx)
   ⟨fun x=>@Ok FV (finV c125.res x) ⟨fun v=>v=.tup []∧RowR h id (Go.Sort.insOuter ltB a b i d) x.2.2.1∧nx ≤ x.2.2.2⟩⟩:=by
 intro k
 induction k with
 |zero =>
  intro i d h nx hi hn hr
  have h1:decide ((i:Int) < (b:Int))=false:=by simp;omega
  simp (disch:=first | exact d_Q1 | fail) only [unf b125_2.eq_1,c125,h1,EVS,Nat.reduceAdd,Nat.reduceSub,Int.reduceToNat,Nat.reduceMul,Nat.reduceEqDiff,Nat.reduceLeDiff,Int.reduceEq,Int.reduceLT,Int.reduceLE,↓reduceIte]
  exact ⟨rfl,.refl (by rw [Go.Sort.insOuter,if_neg (by omega)];exact hr),by omega⟩
 |succ k ih =>
  intro i d h nx hi hn hr
  by_cases hib:i < b
  ·have h1:decide ((i:Int) < (b:Int))=true:=by simp;omega
   simp (disch:=first | exact d_Q1 | fail) only [unf b125_2.eq_1,c125,h1,EVS,Nat.reduceAdd,Nat.reduceSub,Int.reduceToNat,Nat.reduceMul,Nat.reduceEqDiff,Nat.reduceLeDiff,Int.reduceEq,Int.reduceLT,Int.reduceLE,↓reduceIte]
   refine insInner_step id n b i a _ i d h _ (by omega) hn hN hr (fun h' nx' j' hn' hx=>?_)
   have e1:(i:Int) + 1=((i + 1:Nat):Int):=by omega
   simp (disch:=first | exact d_Q1 | fail) only [unf k125_1.eq_1,c125,e1,EVS,Nat.reduceAdd,Nat.reduceSub,Int.reduceToNat,Nat.reduceMul,Nat.reduceEqDiff,Nat.reduceLeDiff,Int.reduceEq,Int.reduceLT,Int.reduceLE,↓reduceIte]
   refine Ok_inL0 (Ok_mono (ih (i + 1) _ h' _ (by omega) (by rw [insInner_size];exact hn) hx.1) fun x hq=>Ok_mono hq fun v hv=>?_)
   obtain ⟨h1,h2,h3⟩:=hv
   exact ⟨h1,by rw [Go.Sort.insOuter,if_pos hib];exact hx.trans h2,by omega⟩
  ·have h1:decide ((i:Int) < (b:Int))=false:=by simp;omega
   simp (disch:=first | exact d_Q1 | fail) only [unf b125_2.eq_1,c125,h1,EVS,Nat.reduceAdd,Nat.reduceSub,Int.reduceToNat,Nat.reduceMul,Nat.reduceEqDiff,Nat.reduceLeDiff,Int.reduceEq,Int.reduceLT,Int.reduceLE,↓reduceIte]
   exact ⟨rfl,.refl (by rw [Go.Sort.insOuter,if_neg (by omega)];exact hr),by omega⟩
theorem ins_spec (id n a b:Nat) (d:Array Bd) (ha:a ≤ n) (hb:b ≤ n) (hN:n ≤ 1000000) (hn:d.size=n) (h:Heap) (nx:Nat) (hr:hget h id=some (rowB d)) :
  ∃ r,lim T 125 [.sref 3 id n 0 n,.int .i64 a,.int .i64 b,.fn 46 []] h nx=some r∧r.1=.tup []∧RowN id (Go.Sort.insertionSort ltB d a b) h nx r.2.1 r.2.2:=by
 refine shr_ex tg125 rfl rfl ?_
 have e1:(a:Int) + 1=((a + 1:Nat):Int):=by omega
 simp (disch:=first | exact d_Q1 | fail) only [c125,e1,EVS,Nat.reduceAdd,Nat.reduceSub,Int.reduceToNat,Nat.reduceMul,Nat.reduceEqDiff,Nat.reduceLeDiff,Int.reduceEq,Int.reduceLT,Int.reduceLE,↓reduceIte]
 refine Ok_mono (insOuter_step id n a b hb hN (n - a) (a + 1) d h _ (by omega) hn hr) fun x hq=>Ok_mono hq fun v hv=>?_
 exact ⟨hv.1,hv.2.1.n (by have:=hv.2.2;dsimp only;omega)⟩
theorem d_Q2 {P:Prop} (h:P:=by first|omega|(simp only[EVL]<;>omega)|(simp only[hget_c,Nat.reduceEqDiff,↓reduceIte];done)|assumption|(simp (disch:=omega) only[hg_ne,hg_eq,hgs_ne, *];done)|(simp only [rb_len];done)|with_unfolding_all rfl):P:=h
theorem sift_loop (id n hi F:Nat) (hF:F + hi ≤ n) (hN:n ≤ 1000000):∀ (k root:Nat) (d:Array Bd) (h:Heap) (nx:Nat),hi - root ≤ k→root ≤ n→d.size=n→hget h id=some (rowB d) →
  @Ok Out (runs T [.code b181_0,.inL none b181_0,.inB 0] [(0,.sref 3 id n 0 n),(2,.int .i64 hi),(3,.int .i64 F),(4,.fn 46 []),(10,.int .i64 root)] h nx)
   ⟨fun x=>@Ok FV (finV c181.res x) ⟨fun v=>v=.tup []∧RowR h id (Go.Sort.siftDown ltB hi F root d) x.2.2.1∧nx ≤ x.2.2.2⟩⟩:=by
 intro k
 induction k with
 |zero =>
  intro root d h nx hk hro hn hr
  have h1:decide (hi ≤ 2 * root + 1)=true:=by simp;omega
  simp (disch:=first | exact d_Q2 | fail) only [unf b181_0.eq_1,c181,NA,w_xb,h1,EVS,Nat.reduceAdd,Nat.reduceSub,Int.reduceToNat,Nat.reduceMul,Nat.reduceEqDiff,Nat.reduceLeDiff,Int.reduceEq,Int.reduceLT,Int.reduceLE,↓reduceIte]
  exact ⟨rfl,.refl (by rw [sd_end (by omega)];exact hr),by omega⟩
 |succ k ih =>
  intro root d h nx hk hro hn hr
  by_cases hc:hi ≤ 2 * root + 1
  ·have h1:decide (hi ≤ 2 * root + 1)=true:=by simp;omega
   simp (disch:=first | exact d_Q2 | fail) only [unf b181_0.eq_1,c181,NA,w_xb,h1,EVS,Nat.reduceAdd,Nat.reduceSub,Int.reduceToNat,Nat.reduceMul,Nat.reduceEqDiff,Nat.reduceLeDiff,Int.reduceEq,Int.reduceLT,Int.reduceLE,↓reduceIte]
   exact ⟨rfl,.refl (by rw [sd_end (by omega)];exact hr),by omega⟩
  ·have h1:decide (hi ≤ 2 * root + 1)=false:=by simp;omega
   have hr':=hr
   rw [row_of] at hr'
   by_cases hc2:2 * root + 1 + 1 < hi
   ·have h2:decide (2 * root + 1 + 1 < hi)=true:=by simp;omega
    cases hb:ltB d[F + (2 * root + 1)]! d[F + (2 * root + 1) + 1]! with
    |true =>
     have hcc:2 * root + 1 + 1 < hi∧ltB d[F + (2 * root + 1)]! d[F + (2 * root + 1) + 1]! = true:=⟨hc2,hb⟩
     cases hd:ltB d[F + root]! d[F + (2 * root + 1 + 1)]! with
     |false =>
      simp (disch:=first | exact d_Q2 | fail) only [unf b181_0.eq_1,c181,NA,w_xb,cmp_spec,hr',SR,ltB_eq,h1,h2,hb,hd,EVS,Nat.reduceAdd,Nat.reduceSub,Int.reduceToNat,Nat.reduceMul,Nat.reduceEqDiff,Nat.reduceLeDiff,Int.reduceEq,Int.reduceLT,Int.reduceLE,↓reduceIte]
      exact ⟨rfl,.refl (by rw [sd_step hc (2 * root + 1 + 1) (by simp [hcc]),hd];exact hr),by omega⟩
     |true =>
      simp (disch:=first | exact d_Q2 | fail) only [unf b181_0.eq_1,c181,NA,w_xb,cmp_spec,hr',SR,ltB_eq,h1,h2,hb,hd,EVS,Nat.reduceAdd,Nat.reduceSub,Int.reduceToNat,Nat.reduceMul,Nat.reduceEqDiff,Nat.reduceLeDiff,Int.reduceEq,Int.reduceLT,Int.reduceLE,↓reduceIte]
      refine Ok_inL0 (Ok_mono (ih (2 * root + 1 + 1) (Go.Sort.swp d (F + root) (F + (2 * root + 1 + 1))) _ _ (by omega) (by omega) (by rw [sz_swp];exact hn) (hgs_eq hr)) fun x hq=>Ok_mono hq fun v hv=>?_)
      exact ⟨hv.1,by rw [sd_step hc (2 * root + 1 + 1) (by simp [hcc]),hd];exact (RowR.one hr).trans hv.2.1,by have:=hv.2.2;omega⟩
    |false =>
     have hcc:¬ (2 * root + 1 + 1 < hi∧ltB d[F + (2 * root + 1)]! d[F + (2 * root + 1) + 1]! = true):=fun hh=>by rw [hb] at hh;cases hh.2
     cases hd:ltB d[F + root]! d[F + (2 * root + 1)]! with
     |false =>
      simp (disch:=first | exact d_Q2 | fail) only [unf b181_0.eq_1,c181,NA,w_xb,cmp_spec,hr',SR,ltB_eq,h1,h2,hb,hd,EVS,Nat.reduceAdd,Nat.reduceSub,Int.reduceToNat,Nat.reduceMul,Nat.reduceEqDiff,Nat.reduceLeDiff,Int.reduceEq,Int.reduceLT,Int.reduceLE,↓reduceIte]
      exact ⟨rfl,.refl (by rw [sd_step hc (2 * root + 1) (by simp [hcc]),hd];exact hr),by omega⟩
     |true =>
      simp (disch:=first | exact d_Q2 | fail) only [unf b181_0.eq_1,c181,NA,w_xb,cmp_spec,hr',SR,ltB_eq,h1,h2,hb,hd,EVS,Nat.reduceAdd,Nat.reduceSub,Int.reduceToNat,Nat.reduceMul,Nat.reduceEqDiff,Nat.reduceLeDiff,Int.reduceEq,Int.reduceLT,Int.reduceLE,↓reduceIte]
      refine Ok_inL0 (Ok_mono (ih (2 * root + 1) (Go.Sort.swp d (F + root) (F + (2 * root + 1))) _ _ (by omega) (by omega) (by rw [sz_swp];exact hn) (hgs_eq hr)) fun x hq=>Ok_mono hq fun v hv=>?_)
      exact ⟨hv.1,by rw [sd_step hc (2 * root + 1) (by simp [hcc]),hd];exact (RowR.one hr).trans hv.2.1,by have:=hv.2.2;omega⟩
   ·have h2:decide (2 * root + 1 + 1 < hi)=false:=by simp;omega
    have hcc:¬ (2 * root + 1 + 1 < hi∧ltB d[F + (2 * root + 1)]! d[F + (2 * root + 1) + 1]! = true):=fun hh=>hc2 hh.1
    cases hd:ltB d[F + root]! d[F + (2 * root + 1)]! with
    |false =>
     simp (disch:=first | exact d_Q2 | fail) only [unf b181_0.eq_1,c181,NA,w_xb,cmp_spec,hr',SR,ltB_eq,h1,h2,hd,EVS,Nat.reduceAdd,Nat.reduceSub,Int.reduceToNat,Nat.reduceMul,Nat.reduceEqDiff,Nat.reduceLeDiff,Int.reduceEq,Int.reduceLT,Int.reduceLE,↓reduceIte]
     exact ⟨rfl,.refl (by rw [sd_step hc (2 * root + 1) (by simp [hcc]),hd];exact hr),by omega⟩
    |true =>
     simp (disch:=first | exact d_Q2 | fail) only [unf b181_0.eq_1,c181,NA,w_xb,cmp_spec,hr',SR,ltB_eq,h1,h2,hd,EVS,Nat.reduceAdd,Nat.reduceSub,Int.reduceToNat,Nat.reduceMul,Nat.reduceEqDiff,Nat.reduceLeDiff,Int.reduceEq,Int.reduceLT,Int.reduceLE,↓reduceIte]
     refine Ok_inL0 (Ok_mono (ih (2 * root + 1) (Go.Sort.swp d (F + root) (F + (2 * root + 1))) _ _ (by omega) (by omega) (by rw [sz_swp];exact hn) (hgs_eq hr)) fun x hq=>Ok_mono hq fun v hv=>?_)
     exact ⟨hv.1,by rw [sd_step hc (2 * root + 1) (by simp [hcc]),hd];exact (RowR.one hr).trans hv.2.1,by have:=hv.2.2;omega⟩
theorem sift_spec (id n lo hi F:Nat) (d:Array Bd) (hl:lo ≤ n) (hF:F + hi ≤ n) (hN:n ≤ 1000000) (hn:d.size=n) (h:Heap) (nx:Nat) (hr:hget h id=some (rowB d)) :
  ∃ r,lim T 181 [.sref 3 id n 0 n,.int .i64 lo,.int .i64 hi,.int .i64 F,.fn 46 []] h nx=some r∧r.1=.tup []∧RowR h id (Go.Sort.siftDown ltB hi F lo d) r.2.1∧nx ≤ r.2.2:=by
 refine shr_ex tg181 rfl rfl ?_
 simp (disch:=first | exact d_Q2 | fail) only [c181,EVS,Nat.reduceAdd,Nat.reduceSub,Int.reduceToNat,Nat.reduceMul,Nat.reduceEqDiff,Nat.reduceLeDiff,Int.reduceEq,Int.reduceLT,Int.reduceLE,↓reduceIte]
 refine Ok_mono (sift_loop id n hi F hF hN hi lo d h _ (by omega) hl hn hr) fun x hq=>Ok_mono hq fun v hv=>?_
 exact ⟨hv.1,hv.2.1,by have:=hv.2.2;dsimp only;omega⟩
theorem build_loop (id n hi F:Nat) (hF:F + hi ≤ n) (hN:n ≤ 1000000) (Q:Post Out):∀ (k:Nat) (d:Array Bd) (h:Heap) (nx:Nat),k ≤ n→d.size=n→hget h id=some (rowB d) →
  (∀ h' nx' (m:Int),nx ≤ nx'→(Go.Sort.heapBuild ltB hi F k d).size=n→RowR h id (Go.Sort.heapBuild ltB hi F k d) h'→@Ok Out (runs T [.code k126_2] [(0,.sref 3 id n 0 n),(3,.fn 46 []),(8,.int .i64 F),(9,.int .i64 0),(10,.int .i64 hi),(11,.int .i64 m),(21,.bool false)] h' nx') Q) →
  @Ok Out (runs T [.code b126_0,.inL none b126_0,.inB 0,.code k126_2] [(0,.sref 3 id n 0 n),(3,.fn 46 []),(8,.int .i64 F),(9,.int .i64 0),(10,.int .i64 hi),(11,.int .i64 ((k:Int) - 1))] h nx) Q:=by
 intro k
 induction k with
 |zero =>
  intro d h nx hk hn hr next
  have e1:((0:Nat):Int) - 1=-1:=by omega
  have h1:decide ((0:Int) ≤ -1)=false:=by decide
  simp (disch:=first | exact d_Q2 | fail) only [unf b126_0.eq_1,c126,e1,h1,EVS,Nat.reduceAdd,Nat.reduceSub,Int.reduceToNat,Nat.reduceMul,Nat.reduceEqDiff,Nat.reduceLeDiff,Int.reduceEq,Int.reduceLT,Int.reduceLE,↓reduceIte]
  exact next _ _ _ (by omega) hn (.refl hr)
 |succ k ih =>
  intro d h nx hk hn hr next
  have e1:((k + 1:Nat):Int) - 1=(k:Nat):=by omega
  have h1:decide ((0:Int) ≤ (k:Nat))=true:=by simp
  simp (disch:=first | exact d_Q2 | fail) only [unf b126_0.eq_1,c126,e1,h1,EVS,Nat.reduceAdd,Nat.reduceSub,Int.reduceToNat,Nat.reduceMul,Nat.reduceEqDiff,Nat.reduceLeDiff,Int.reduceEq,Int.reduceLT,Int.reduceLE,↓reduceIte]
  refine Ok_call (sift_spec id n k hi F d (by omega) hF hN hn h _ hr) fun r hq=>?_
  obtain ⟨q1,q2,q3⟩:=hq
  have sz:=siftDown_size (lt:=ltB) (hi:=hi) (F:=F) (hi - k) k d (Nat.le_refl _)
  rw [q1]
  refine ⟨rfl,?_⟩
  simp (disch:=first | exact d_Q2 | fail) only [c126,EVS,Nat.reduceAdd,Nat.reduceSub,Int.reduceToNat,Nat.reduceMul,Nat.reduceEqDiff,Nat.reduceLeDiff,Int.reduceEq,Int.reduceLT,Int.reduceLE,↓reduceIte]
  refine Ok_inL0 (ih _ _ _ (by omega) (by rw [sz];exact hn) q2.1 fun h' nx' m hm h1 h2=>next h' nx' m (by omega) h1 (q2.trans h2))
theorem pop_loop (id n F:Nat) (hF0:F ≤ n) (hN:n ≤ 1000000):∀ (k:Nat) (d:Array Bd) (h:Heap) (nx:Nat),F + k ≤ n→d.size=n→hget h id=some (rowB d) →
  @Ok Out (runs T [.code b126_1,.inL none b126_1,.inB 2] [(0,.sref 3 id n 0 n),(3,.fn 46 []),(8,.int .i64 F),(9,.int .i64 0),(12,.int .i64 ((k:Int) - 1))] h nx)
   ⟨fun x=>@Ok FV (finV c126.res x) ⟨fun v=>v=.tup []∧RowR h id (Go.Sort.heapPop ltB F k d) x.2.2.1∧nx ≤ x.2.2.2⟩⟩:=by
 intro k
 induction k with
 |zero =>
  intro d h nx hk hn hr
  have e1:((0:Nat):Int) - 1=-1:=by omega
  have h1:decide ((0:Int) ≤ -1)=false:=by decide
  simp (disch:=first | exact d_Q2 | fail) only [unf b126_1.eq_1,c126,e1,h1,EVS,Nat.reduceAdd,Nat.reduceSub,Int.reduceToNat,Nat.reduceMul,Nat.reduceEqDiff,Nat.reduceLeDiff,Int.reduceEq,Int.reduceLT,Int.reduceLE,↓reduceIte]
  exact ⟨rfl,.refl hr,by omega⟩
 |succ k ih =>
  intro d h nx hk hn hr
  have e1:((k + 1:Nat):Int) - 1=(k:Nat):=by omega
  have h1:decide ((0:Int) ≤ (k:Nat))=true:=by simp
  have hr':=hr
  rw [row_of] at hr'
  have z0:(0:Int)=((0:Nat):Int):=rfl
  have zs:=sz_swp (d:=d) (i:=F) (j:=F + k)
  have hr2:RowR h id (Go.Sort.swp d F (F + k)) (hset h id (rowB (Go.Sort.swp d F (F + k)))):=RowR.one hr
  simp (disch:=first | exact d_Q2 | fail) only [unf b126_1.eq_1,c126,e1,h1,na,hr',SR,EVS,Nat.reduceAdd,Nat.reduceSub,Int.reduceToNat,Nat.reduceMul,Nat.reduceEqDiff,Nat.reduceLeDiff,Int.reduceEq,Int.reduceLT,Int.reduceLE,↓reduceIte]
  refine Ok_call (sift_spec id n 0 k F (Go.Sort.swp d F (F + k)) (by omega) (by omega) hN (by omega) _ _ hr2.1) fun r hq=>?_
  obtain ⟨q1,q2,q3⟩:=hq
  have sz:=siftDown_size (lt:=ltB) (hi:=k) (F:=F) k 0 (Go.Sort.swp d F (F + k)) (by omega)
  rw [q1]
  refine ⟨rfl,?_⟩
  simp (disch:=first | exact d_Q2 | fail) only [c126,EVS,Nat.reduceAdd,Nat.reduceSub,Int.reduceToNat,Nat.reduceMul,Nat.reduceEqDiff,Nat.reduceLeDiff,Int.reduceEq,Int.reduceLT,Int.reduceLE,↓reduceIte]
  refine Ok_inL0 (Ok_mono (ih _ _ _ (by omega) (by omega) q2.1) fun x hq=>Ok_mono hq fun v hv=>?_)
  exact ⟨hv.1,(hr2.trans q2).trans hv.2.1,by have:=hv.2.2;omega⟩
theorem heap_spec (id n a b:Nat) (d:Array Bd) (ha:a < b) (hb:b ≤ n) (hN:n ≤ 1000000) (hn:d.size=n) (h:Heap) (nx:Nat) (hr:hget h id=some (rowB d)) :
  ∃ r,lim T 126 [.sref 3 id n 0 n,.int .i64 a,.int .i64 b,.fn 46 []] h nx=some r∧r.1=.tup []∧RowN id (Go.Sort.heapSort ltB d a b) h nx r.2.1 r.2.2:=by
 refine shr_ex tg126 rfl rfl ?_
 have e2:(b:Int) - a=((b - a:Nat):Int):=by omega
 have e3:((b - a:Nat):Int) - 1=((b - a - 1:Nat):Int):=by omega
 have e4:((b - a - 1:Nat):Int).tdiv 2=(((b - a - 1) / 2 + 1:Nat):Int) - 1:=by rw [Int.tdiv_eq_ediv_of_nonneg (by omega)];omega
 simp (disch:=first | exact d_Q2 | fail) only [c126,e2,e3,e4,EVS,Nat.reduceAdd,Nat.reduceSub,Int.reduceToNat,Nat.reduceMul,Nat.reduceEqDiff,Nat.reduceLeDiff,Int.reduceEq,Int.reduceLT,Int.reduceLE,↓reduceIte]
 refine build_loop id n (b - a) a (by omega) hN _ ((b - a - 1) / 2 + 1) d h _ (by omega) hn hr fun h' nx' m hm s1 s2=>?_
 simp (disch:=first | exact d_Q2 | fail) only [c126,unf k126_2.eq_1,EVS,Nat.reduceAdd,Nat.reduceSub,Int.reduceToNat,Nat.reduceMul,Nat.reduceEqDiff,Nat.reduceLeDiff,Int.reduceEq,Int.reduceLT,Int.reduceLE,↓reduceIte]
 refine Ok_mono (pop_loop id n a (by omega) hN (b - a) _ _ _ (by omega) s1 s2.1) fun x hq=>Ok_mono hq fun v hv=>?_
 exact ⟨hv.1,(s2.trans hv.2.1).n (by have:=hv.2.2;dsimp only;omega)⟩
theorem d_Q3 {P:Prop} (h:P:=by first|omega|(simp only[EVL]<;>omega)|(simp only[hget_c,Nat.reduceEqDiff,↓reduceIte];done)|assumption|(simp (disch:=omega) only[hg_ne,hg_eq,hgs_ne, *];done)|(simp only [rb_len];done)|with_unfolding_all rfl):P:=h
theorem rev_loop (id n:Nat) (hN:n ≤ 1000000):∀ (k i j:Nat) (d:Array Bd) (h:Heap) (nx:Nat),j - i ≤ k→j < n→d.size=n→i ≤ n→hget h id=some (rowB d) →
  @Ok Out (runs T [.code b129_0,.inL none b129_0,.inB 0] [(0,.sref 3 id n 0 n),(8,.int .i64 i),(9,.int .i64 j)] h nx)
   ⟨fun x=>@Ok FV (finV c129.res x) ⟨fun v=>v=.tup []∧RowR h id (Go.Sort.reverseLoop i j d) x.2.2.1∧nx ≤ x.2.2.2⟩⟩:=by
 intro k
 induction k with
 |zero =>
  intro i j d h nx hk hj hn hi hr
  have h1:decide (i < j)=false:=by simp;omega
  simp (disch:=first | exact d_Q3 | fail) only [unf b129_0.eq_1,c129,nlt,h1,EVS,Nat.reduceAdd,Nat.reduceSub,Int.reduceToNat,Nat.reduceMul,Nat.reduceEqDiff,Nat.reduceLeDiff,Int.reduceEq,Int.reduceLT,Int.reduceLE,↓reduceIte]
  exact ⟨rfl,.refl (by rw [Go.Sort.reverseLoop,if_neg (by omega)];exact hr),by omega⟩
 |succ k ih =>
  intro i j d h nx hk hj hn hi hr
  by_cases hc:i < j
  ·have h1:decide (i < j)=true:=by simp;omega
   have e1:(j:Int) - 1=((j - 1:Nat):Int):=by omega
   have hr':=hr
   rw [row_of] at hr'
   simp (disch:=first | exact d_Q3 | fail) only [unf b129_0.eq_1,c129,nlt,na1,e1,h1,hr',SR,EVS,Nat.reduceAdd,Nat.reduceSub,Int.reduceToNat,Nat.reduceMul,Nat.reduceEqDiff,Nat.reduceLeDiff,Int.reduceEq,Int.reduceLT,Int.reduceLE,↓reduceIte]
   refine Ok_inL0 (Ok_mono (ih (i + 1) (j - 1) (Go.Sort.swp d i j) _ _ (by omega) (by omega) (by rw [sz_swp];exact hn) (by omega) (hgs_eq hr)) fun x hq=>Ok_mono hq fun v hv=>?_)
   exact ⟨hv.1,by rw [Go.Sort.reverseLoop,if_pos hc];exact (RowR.one hr).trans hv.2.1,by have:=hv.2.2;omega⟩
  ·have h1:decide (i < j)=false:=by simp;omega
   simp (disch:=first | exact d_Q3 | fail) only [unf b129_0.eq_1,c129,nlt,h1,EVS,Nat.reduceAdd,Nat.reduceSub,Int.reduceToNat,Nat.reduceMul,Nat.reduceEqDiff,Nat.reduceLeDiff,Int.reduceEq,Int.reduceLT,Int.reduceLE,↓reduceIte]
   exact ⟨rfl,.refl (by rw [Go.Sort.reverseLoop,if_neg (by omega)];exact hr),by omega⟩
theorem rev_spec (id n a b:Nat) (f:FV) (d:Array Bd) (ha:a < b) (hb:b ≤ n) (hN:n ≤ 1000000) (hn:d.size=n) (h:Heap) (nx:Nat) (hr:hget h id=some (rowB d)) :
  ∃ r,lim T 129 [.sref 3 id n 0 n,.int .i64 a,.int .i64 b,f] h nx=some r∧r.1=.tup []∧RowN id (Go.Sort.reverseRange d a b) h nx r.2.1 r.2.2:=by
 refine shr_ex tg129 rfl rfl ?_
 have e1:(b:Int) - 1=((b - 1:Nat):Int):=by omega
 simp (disch:=first | exact d_Q3 | fail) only [c129,e1,EVS,Nat.reduceAdd,Nat.reduceSub,Int.reduceToNat,Nat.reduceMul,Nat.reduceEqDiff,Nat.reduceLeDiff,Int.reduceEq,Int.reduceLT,Int.reduceLE,↓reduceIte]
 refine Ok_mono (rev_loop id n hN (b - 1 - a) a (b - 1) d h _ (by omega) (by omega) hn (by omega) hr) fun x hq=>Ok_mono hq fun v hv=>?_
 exact ⟨hv.1,hv.2.1.n (by have:=hv.2.2;dsimp only;omega)⟩
theorem ord2_spec (id n a b q:Nat) (d:Array Bd) (ha:a < n) (hb:b < n) (hN:n ≤ 1000000) (hn:d.size=n) (h:Heap) (nx:Nat) (s:Int) (hr:hget h id=some (rowB d)) (hs:hget h q=some (.row 1 [.int .i64 s])) :
  ∃ r,lim T 196 [.sref 3 id n 0 n,.int .i64 a,.int .i64 b,.ptr q 1 0 0,.fn 46 []] h nx=some r∧(∃ x y:Nat,r.1=.tup [.int .i64 x,.int .i64 y]∧(x=a ∨ x=b)∧(y=a ∨ y=b))∧CntR h q r.2.1∧nx ≤ r.2.2:=by
 refine shr_ex tg196 rfl rfl ?_
 have hr':=hr
 rw [row_of] at hr'
 cases hb':ltB d[b]! d[a]! with
 |true =>
  simp (disch:=first | exact d_Q3 | fail) only [c196,cmp_spec,hr',SR,ltB_eq,hb',hs,EVS,Nat.reduceAdd,Nat.reduceSub,Int.reduceToNat,Nat.reduceMul,Nat.reduceEqDiff,Nat.reduceLeDiff,Int.reduceEq,Int.reduceLT,Int.reduceLE,↓reduceIte]
  exact ⟨⟨b,a,rfl,.inr rfl,.inl rfl⟩,⟨⟨_,hgs_eq hs⟩,fun i hi=>hgs_ne (Ne.symm hi)⟩,by omega⟩
 |false =>
  simp (disch:=first | exact d_Q3 | fail) only [c196,cmp_spec,hr',SR,ltB_eq,hb',hs,EVS,Nat.reduceAdd,Nat.reduceSub,Int.reduceToNat,Nat.reduceMul,Nat.reduceEqDiff,Nat.reduceLeDiff,Int.reduceEq,Int.reduceLT,Int.reduceLE,↓reduceIte]
  exact ⟨⟨a,b,rfl,.inl rfl,.inr rfl⟩,⟨⟨s,hs⟩,fun i hi=>rfl⟩,by omega⟩
theorem med_spec (id n a b c q:Nat) (d:Array Bd) (ha:a < n) (hb:b < n) (hc:c < n) (hN:n ≤ 1000000) (hn:d.size=n) (hq:q ≠ id) (h:Heap) (nx:Nat) (s:Int) (hr:hget h id=some (rowB d)) (hs:hget h q=some (.row 1 [.int .i64 s])) :
  ∃ r,lim T 185 [.sref 3 id n 0 n,.int .i64 a,.int .i64 b,.int .i64 c,.ptr q 1 0 0,.fn 46 []] h nx=some r∧(∃ x:Nat,r.1=.int .i64 x∧(x=a ∨ x=b ∨ x=c))∧CntR h q r.2.1∧nx ≤ r.2.2:=by
 refine shr_ex tg185 rfl rfl ?_
 simp (disch:=first | exact d_Q3 | fail) only [c185,EVS,Nat.reduceAdd,Nat.reduceSub,Int.reduceToNat,Nat.reduceMul,Nat.reduceEqDiff,Nat.reduceLeDiff,Int.reduceEq,Int.reduceLT,Int.reduceLE,↓reduceIte]
 refine Ok_call (ord2_spec id n a b q d ha hb hN hn h _ s hr hs) fun r hr1=>?_
 obtain ⟨⟨x1,y1,p1,p2,p3⟩,⟨⟨s1,t1⟩,u1⟩,v1⟩:=hr1
 rw [p1]
 refine ⟨rfl,?_⟩
 simp (disch:=first | exact d_Q3 | fail) only [c185,EVS,Nat.reduceAdd,Nat.reduceSub,Int.reduceToNat,Nat.reduceMul,Nat.reduceEqDiff,Nat.reduceLeDiff,Int.reduceEq,Int.reduceLT,Int.reduceLE,↓reduceIte]
 refine Ok_call (ord2_spec id n y1 c q d (by omega) hc hN hn _ _ s1 ((u1 id (Ne.symm hq)).trans hr) t1) fun r2 hr2=>?_
 obtain ⟨⟨x2,y2,p4,p5,p6⟩,⟨⟨s2,t2⟩,u2⟩,v2⟩:=hr2
 rw [p4]
 refine ⟨rfl,?_⟩
 simp (disch:=first | exact d_Q3 | fail) only [c185,EVS,Nat.reduceAdd,Nat.reduceSub,Int.reduceToNat,Nat.reduceMul,Nat.reduceEqDiff,Nat.reduceLeDiff,Int.reduceEq,Int.reduceLT,Int.reduceLE,↓reduceIte]
 refine Ok_call (ord2_spec id n x1 x2 q d (by omega) (by omega) hN hn _ _ s2 ((u2 id (Ne.symm hq)).trans ((u1 id (Ne.symm hq)).trans hr)) t2) fun r3 hr3=>?_
 obtain ⟨⟨x3,y3,p7,p8,p9⟩,⟨⟨s3,t3⟩,u3⟩,v3⟩:=hr3
 rw [p7]
 refine ⟨rfl,?_⟩
 simp (disch:=first | exact d_Q3 | fail) only [c185,EVS,Nat.reduceAdd,Nat.reduceSub,Int.reduceToNat,Nat.reduceMul,Nat.reduceEqDiff,Nat.reduceLeDiff,Int.reduceEq,Int.reduceLT,Int.reduceLE,↓reduceIte]
 exact ⟨⟨y3,rfl,by omega⟩,⟨⟨s3,t3⟩,fun i hi=>(u3 i hi).trans ((u2 i hi).trans (u1 i hi))⟩,by omega⟩
theorem medA_spec (id n a q:Nat) (d:Array Bd) (ha:1 ≤ a) (hb:a + 1 < n) (hN:n ≤ 1000000) (hn:d.size=n) (hq:q ≠ id) (h:Heap) (nx:Nat) (s:Int) (hr:hget h id=some (rowB d)) (hs:hget h q=some (.row 1 [.int .i64 s])) :
  ∃ r,lim T 184 [.sref 3 id n 0 n,.int .i64 a,.ptr q 1 0 0,.fn 46 []] h nx=some r∧(∃ x:Nat,r.1=.int .i64 x∧(x=a - 1 ∨ x=a ∨ x=a + 1))∧CntR h q r.2.1∧nx ≤ r.2.2:=by
 refine shr_ex tg184 rfl rfl ?_
 have e1:(a:Int) - 1=((a - 1:Nat):Int):=by omega
 simp (disch:=first | exact d_Q3 | fail) only [c184,e1,na1,EVS,Nat.reduceAdd,Nat.reduceSub,Int.reduceToNat,Nat.reduceMul,Nat.reduceEqDiff,Nat.reduceLeDiff,Int.reduceEq,Int.reduceLT,Int.reduceLE,↓reduceIte]
 refine Ok_call (med_spec id n (a - 1) a (a + 1) q d (by omega) (by omega) hb hN hn hq h _ s hr hs) fun r hr1=>?_
 obtain ⟨⟨x1,p1,p2⟩,c1,v1⟩:=hr1
 rw [p1]
 refine ⟨rfl,?_⟩
 simp (disch:=first | exact d_Q3 | fail) only [c184,EVS,Nat.reduceAdd,Nat.reduceSub,Int.reduceToNat,Nat.reduceMul,Nat.reduceEqDiff,Nat.reduceLeDiff,Int.reduceEq,Int.reduceLT,Int.reduceLE,↓reduceIte]
 exact ⟨⟨x1,rfl,p2⟩,c1,by omega⟩
theorem d_Q4 {P:Prop} (h:P:=by first|omega|(simp only[EVL]<;>omega)|(simp only[hget_c,Nat.reduceEqDiff,↓reduceIte];done)|assumption|(simp (disch:=omega) only[hg_ne,hg_eq,hgs_ne, *];done)|(simp only [rb_len];done)|with_unfolding_all rfl):P:=h
theorem choose_spec (id n a b:Nat) (d:Array Bd) (hab:a < b) (hb:b ≤ n) (hN:n ≤ 1000000) (hn:d.size=n) (h:Heap) (nx:Nat) (hid:id < nx) (hr:hget h id=some (rowB d)) :
  ∃ r,lim T 128 [.sref 3 id n 0 n,.int .i64 a,.int .i64 b,.fn 46 []] h nx=some r∧(∃ (p:Nat) (t:Int),r.1=.tup [.int .i64 p,.int .i64 t]∧a ≤ p∧p < b)∧RowN id d h nx r.2.1 r.2.2:=by
 refine shr_ex tg128 rfl rfl ?_
 have e1:(b:Int) - a=((b - a:Nat):Int):=by omega
 have e2:((b - a:Nat):Int).tdiv 4=(((b - a) / 4:Nat):Int):=by rw [Int.tdiv_eq_ediv_of_nonneg (by omega)];omega
 have e3:∀ x:Nat,((x:Nat):Int) * 1=((x * 1:Nat):Int):=fun x=>by omega
 have e4:∀ x:Nat,((x:Nat):Int) * 2=((x * 2:Nat):Int):=fun x=>by omega
 have e5:∀ x:Nat,((x:Nat):Int) * 3=((x * 3:Nat):Int):=fun x=>by omega
 by_cases h8:8 ≤ b - a
 ·have d8:decide ((8:Int) ≤ ((b - a:Nat):Int))=true:=by simp;omega
  by_cases h50:50 ≤ b - a
  ·have d50:decide ((50:Int) ≤ ((b - a:Nat):Int))=true:=by simp;omega
   simp (disch:=first | exact d_Q4 | fail) only [c128,e1,e2,e3,e4,e5,na,d8,d50,EVS,Nat.reduceAdd,Nat.reduceSub,Int.reduceToNat,Nat.reduceMul,Nat.reduceEqDiff,Nat.reduceLeDiff,Int.reduceEq,Int.reduceLT,Int.reduceLE,↓reduceIte]
   have r0:hget ((nx + 2 + 4,Obj.row 1 [FV.int IntKind.i64 0])::h) id=some (rowB d):=by rw [hg_ne (by omega)];exact hr
   refine Ok_call (medA_spec id n (a + (b - a) / 4 * 1) (nx + 2 + 4) d (by omega) (by omega) hN hn (by omega) _ _ _ r0 hg_eq) fun r hr1=>?_
   obtain ⟨⟨x1,p1,q1⟩,⟨⟨s1,t1⟩,u1⟩,v1⟩:=hr1
   rw [p1]
   refine ⟨rfl,?_⟩
   have r1:=(u1 id (by omega)).trans r0
   simp (disch:=first | exact d_Q4 | fail) only [c128,EVS,Nat.reduceAdd,Nat.reduceSub,Int.reduceToNat,Nat.reduceMul,Nat.reduceEqDiff,Nat.reduceLeDiff,Int.reduceEq,Int.reduceLT,Int.reduceLE,↓reduceIte]
   refine Ok_call (medA_spec id n (a + (b - a) / 4 * 2) (nx + 2 + 4) d (by omega) (by omega) hN hn (by omega) _ _ _ r1 t1) fun r hr1=>?_
   obtain ⟨⟨x2,p2,q2⟩,⟨⟨s2,t2⟩,u2⟩,v2⟩:=hr1
   rw [p2]
   refine ⟨rfl,?_⟩
   have r2:=(u2 id (by omega)).trans r1
   simp (disch:=first | exact d_Q4 | fail) only [c128,EVS,Nat.reduceAdd,Nat.reduceSub,Int.reduceToNat,Nat.reduceMul,Nat.reduceEqDiff,Nat.reduceLeDiff,Int.reduceEq,Int.reduceLT,Int.reduceLE,↓reduceIte]
   refine Ok_call (medA_spec id n (a + (b - a) / 4 * 3) (nx + 2 + 4) d (by omega) (by omega) hN hn (by omega) _ _ _ r2 t2) fun r hr1=>?_
   obtain ⟨⟨x3,p3,q3⟩,⟨⟨s3,t3⟩,u3⟩,v3⟩:=hr1
   rw [p3]
   refine ⟨rfl,?_⟩
   have r3:=(u3 id (by omega)).trans r2
   simp (disch:=first | exact d_Q4 | fail) only [c128,EVS,Nat.reduceAdd,Nat.reduceSub,Int.reduceToNat,Nat.reduceMul,Nat.reduceEqDiff,Nat.reduceLeDiff,Int.reduceEq,Int.reduceLT,Int.reduceLE,↓reduceIte]
   refine Ok_call (med_spec id n x1 x2 x3 (nx + 2 + 4) d (by omega) (by omega) (by omega) hN hn (by omega) _ _ _ r3 t3) fun r hr1=>?_
   obtain ⟨⟨x4,p4,q4⟩,⟨⟨s4,t4⟩,u4⟩,v4⟩:=hr1
   rw [p4]
   refine ⟨rfl,?_⟩
   simp (disch:=first | exact d_Q4 | fail) only [c128,t4,EVS,Nat.reduceAdd,Nat.reduceSub,Int.reduceToNat,Nat.reduceMul,Nat.reduceEqDiff,Nat.reduceLeDiff,Int.reduceEq,Int.reduceLT,Int.reduceLE,↓reduceIte]
   have F:∀ t:Int,(∃ (p:Nat) (t':Int),FV.tup [.int .i64 x4,.int .i64 t]=.tup [.int .i64 p,.int .i64 t']∧a ≤ p∧p < b):=fun t=>⟨x4,t,rfl,by omega,by omega⟩
   have G:∀ i,i < nx→i ≠ id→hget r.2.1 i=hget h i:=fun i hi _=>(u4 i (by omega)).trans ((u3 i (by omega)).trans ((u2 i (by omega)).trans ((u1 i (by omega)).trans (hg_ne (by omega)))))
   have R4:=(u4 id (by omega)).trans r3
   by_cases g1:s4=0
   ·simp (disch:=first | exact d_Q4 | fail) only [c128,g1,EVS,Nat.reduceAdd,Nat.reduceSub,Int.reduceToNat,Nat.reduceMul,Nat.reduceEqDiff,Nat.reduceLeDiff,Int.reduceEq,Int.reduceLT,Int.reduceLE,↓reduceIte]
    exact ⟨F _,R4,by omega,G⟩
   ·by_cases g2:s4=12
    ·simp (disch:=first | exact d_Q4 | fail) only [c128,g1,g2,EVS,Nat.reduceAdd,Nat.reduceSub,Int.reduceToNat,Nat.reduceMul,Nat.reduceEqDiff,Nat.reduceLeDiff,Int.reduceEq,Int.reduceLT,Int.reduceLE,↓reduceIte]
     exact ⟨F _,R4,by omega,G⟩
    ·simp (disch:=first | exact d_Q4 | fail) only [c128,g1,g2,EVS,Nat.reduceAdd,Nat.reduceSub,Int.reduceToNat,Nat.reduceMul,Nat.reduceEqDiff,Nat.reduceLeDiff,Int.reduceEq,Int.reduceLT,Int.reduceLE,↓reduceIte]
     exact ⟨F _,R4,by omega,G⟩
  ·have d50:decide ((50:Int) ≤ ((b - a:Nat):Int))=false:=by simp;omega
   simp (disch:=first | exact d_Q4 | fail) only [c128,e1,e2,e3,e4,e5,na,d8,d50,EVS,Nat.reduceAdd,Nat.reduceSub,Int.reduceToNat,Nat.reduceMul,Nat.reduceEqDiff,Nat.reduceLeDiff,Int.reduceEq,Int.reduceLT,Int.reduceLE,↓reduceIte]
   have r0:hget ((nx + 2 + 4,Obj.row 1 [FV.int IntKind.i64 0])::h) id=some (rowB d):=by rw [hg_ne (by omega)];exact hr
   refine Ok_call (med_spec id n (a + (b - a) / 4 * 1) (a + (b - a) / 4 * 2) (a + (b - a) / 4 * 3) (nx + 2 + 4) d (by omega) (by omega) (by omega) hN hn (by omega) _ _ _ r0 hg_eq) fun r hr1=>?_
   obtain ⟨⟨x4,p4,q4⟩,⟨⟨s4,t4⟩,u4⟩,v4⟩:=hr1
   rw [p4]
   refine ⟨rfl,?_⟩
   simp (disch:=first | exact d_Q4 | fail) only [c128,t4,EVS,Nat.reduceAdd,Nat.reduceSub,Int.reduceToNat,Nat.reduceMul,Nat.reduceEqDiff,Nat.reduceLeDiff,Int.reduceEq,Int.reduceLT,Int.reduceLE,↓reduceIte]
   have F:∀ t:Int,(∃ (p:Nat) (t':Int),FV.tup [.int .i64 x4,.int .i64 t]=.tup [.int .i64 p,.int .i64 t']∧a ≤ p∧p < b):=fun t=>⟨x4,t,rfl,by omega,by omega⟩
   have G:∀ i,i < nx→i ≠ id→hget r.2.1 i=hget h i:=fun i hi _=>(u4 i (by omega)).trans (hg_ne (by omega))
   have R4:=(u4 id (by omega)).trans r0
   by_cases g1:s4=0
   ·simp (disch:=first | exact d_Q4 | fail) only [c128,g1,EVS,Nat.reduceAdd,Nat.reduceSub,Int.reduceToNat,Nat.reduceMul,Nat.reduceEqDiff,Nat.reduceLeDiff,Int.reduceEq,Int.reduceLT,Int.reduceLE,↓reduceIte]
    exact ⟨F _,R4,by omega,G⟩
   ·by_cases g2:s4=12
    ·simp (disch:=first | exact d_Q4 | fail) only [c128,g1,g2,EVS,Nat.reduceAdd,Nat.reduceSub,Int.reduceToNat,Nat.reduceMul,Nat.reduceEqDiff,Nat.reduceLeDiff,Int.reduceEq,Int.reduceLT,Int.reduceLE,↓reduceIte]
     exact ⟨F _,R4,by omega,G⟩
    ·simp (disch:=first | exact d_Q4 | fail) only [c128,g1,g2,EVS,Nat.reduceAdd,Nat.reduceSub,Int.reduceToNat,Nat.reduceMul,Nat.reduceEqDiff,Nat.reduceLeDiff,Int.reduceEq,Int.reduceLT,Int.reduceLE,↓reduceIte]
     exact ⟨F _,R4,by omega,G⟩
 ·have d8:decide ((8:Int) ≤ ((b - a:Nat):Int))=false:=by simp;omega
  simp (disch:=first | exact d_Q4 | fail) only [c128,e1,e2,e3,e4,e5,na,d8,EVS,Nat.reduceAdd,Nat.reduceSub,Int.reduceToNat,Nat.reduceMul,Nat.reduceEqDiff,Nat.reduceLeDiff,Int.reduceEq,Int.reduceLT,Int.reduceLE,↓reduceIte]
  exact ⟨⟨_,_,rfl,by omega,by omega⟩,by rw [hg_ne (by omega)];exact hr,by omega,fun i hi _=>hg_ne (by omega)⟩
theorem d_SB {P:Prop} (h:P:=by first|omega|(simp only[EVL]<;>omega)|(simp only[hget_c,Nat.reduceEqDiff,↓reduceIte];done)|assumption|(simp (disch:=omega) only[hg_ne,hg_eq,hgs_ne, *];done)|with_unfolding_all rfl):P:=h
theorem wideB_spec (w:Int):∀ h nx,lim T 114 [.int .i64 w] h nx=some (.bool (decide (1 ≤ w∧w ≤ 64)),h,nx):=by
 refine lim_iso tg114 rfl rfl rfl ?_
 simp (disch:=first | exact d_SB | fail) only [c114,EVS,Nat.reduceAdd,Nat.reduceSub,Int.reduceToNat,Nat.reduceMul,Nat.reduceEqDiff,Nat.reduceLeDiff,Int.reduceEq,Int.reduceLT,Int.reduceLE,↓reduceIte]
 repeat' (refine Ok_if (fun hb=>?_) (fun hb=>?_)<;>have h:=hb<;>(try simp only [decide_eq_true_eq,decide_eq_false_iff_not,Int.not_lt,Int.not_le] at h)<;>(simp (disch:=first | exact d_SB | fail) only [hb,c114,EVS,Nat.reduceAdd,Nat.reduceSub,Int.reduceToNat,Nat.reduceMul,Nat.reduceEqDiff,Nat.reduceLeDiff,Int.reduceEq,Int.reduceLT,Int.reduceLE,↓reduceIte])<;>(try clear hb))
 all_goals simp_all
 all_goals omega
theorem wideT_spec (w:Int):∀ h nx,lim T 73 [.int .i64 w] h nx=some (.bool (decide (1 ≤ w∧w ≤ 64)),h,nx):=by
 refine lim_iso tg73 rfl rfl rfl ?_
 simp (disch:=first | exact d_SB | fail) only [c73,EVS,Nat.reduceAdd,Nat.reduceSub,Int.reduceToNat,Nat.reduceMul,Nat.reduceEqDiff,Nat.reduceLeDiff,Int.reduceEq,Int.reduceLT,Int.reduceLE,↓reduceIte]
 repeat' (refine Ok_if (fun hb=>?_) (fun hb=>?_)<;>have h:=hb<;>(try simp only [decide_eq_true_eq,decide_eq_false_iff_not,Int.not_lt,Int.not_le] at h)<;>(simp (disch:=first | exact d_SB | fail) only [hb,c73,EVS,Nat.reduceAdd,Nat.reduceSub,Int.reduceToNat,Nat.reduceMul,Nat.reduceEqDiff,Nat.reduceLeDiff,Int.reduceEq,Int.reduceLT,Int.reduceLE,↓reduceIte])<;>(try clear hb))
 all_goals simp_all
 all_goals omega
def maskS (w:Int):Int:=if 1 ≤ w∧w ≤ 64 then 2 ^ w.toNat - 1 else 0
theorem mask_spec (w:Int):∀ h nx,lim T 115 [.int .i64 w] h nx=some (.int .u64 (maskS w),h,nx):=by
 refine lim_iso tg115 rfl rfl rfl ?_
 simp (disch:=first | exact d_SB | fail) only [c115,wideB_spec,EVS,Nat.reduceAdd,Nat.reduceSub,Int.reduceToNat,Nat.reduceMul,Nat.reduceEqDiff,Nat.reduceLeDiff,Int.reduceEq,Int.reduceLT,Int.reduceLE,↓reduceIte]
 repeat' (refine Ok_if (fun hb=>?_) (fun hb=>?_)<;>have h:=hb<;>(try simp only [decide_eq_true_eq,decide_eq_false_iff_not,Int.not_lt,Int.not_le] at h)<;>(simp (disch:=first | exact d_SB | fail) only [hb,c115,EVS,Nat.reduceAdd,Nat.reduceSub,Int.reduceToNat,Nat.reduceMul,Nat.reduceEqDiff,Nat.reduceLeDiff,Int.reduceEq,Int.reduceLT,Int.reduceLE,↓reduceIte])<;>(try clear hb))
 ·have:=shr_mask (n:=w.toNat) (by omega)
  rw [show ((w.toNat:Nat):Int)=w by omega] at this
  rw [this];exact (if_pos h).symm
 ·exact (if_neg h).symm
theorem mask_spec' (w:Int) (h1:1 ≤ w) (h2:w ≤ 64):∀ h nx,lim T 115 [.int .i64 w] h nx=some (.int .u64 (2 ^ w.toNat - 1),h,nx):=by
 have:=mask_spec w
 rwa [maskS,if_pos ⟨h1,h2⟩] at this
def okS (w x:Int):Prop:=1 ≤ w∧w ≤ 64∧x < 2 ^ w.toNat
open Classical in
theorem okB_spec (w x:Int):∀ h nx,lim T 63 [.int .i64 w,.int .u64 x] h nx=some (.bool (decide (okS w x)),h,nx):=by
 refine lim_iso tg63 rfl rfl rfl ?_
 simp (disch:=first | exact d_SB | fail) only [c63,wideB_spec,EVS,Nat.reduceAdd,Nat.reduceSub,Int.reduceToNat,Nat.reduceMul,Nat.reduceEqDiff,Nat.reduceLeDiff,Int.reduceEq,Int.reduceLT,Int.reduceLE,↓reduceIte]
 repeat' (refine Ok_if (fun hb=>?_) (fun hb=>?_)<;>have h:=hb<;>(try simp only [decide_eq_true_eq,decide_eq_false_iff_not,Int.not_lt,Int.not_le] at h)<;>(simp (disch:=first | exact d_SB | fail) only [hb,c63,EVS,Nat.reduceAdd,Nat.reduceSub,Int.reduceToNat,Nat.reduceMul,Nat.reduceEqDiff,Nat.reduceLeDiff,Int.reduceEq,Int.reduceLT,Int.reduceLE,↓reduceIte])<;>(try clear hb))
 ·have h3:=mask_spec' w h.1 h.2
  simp (disch:=first | exact d_SB | fail) only [c63,h3,EVS,Nat.reduceAdd,Nat.reduceSub,Int.reduceToNat,Nat.reduceMul,Nat.reduceEqDiff,Nat.reduceLeDiff,Int.reduceEq,Int.reduceLT,Int.reduceLE,↓reduceIte]
  exact decide_eq_decide.2 ⟨fun e=>⟨h.1,h.2,by omega⟩,fun e=>by have:=e.2.2;omega⟩
 ·exact (decide_eq_false fun hn=>h ⟨hn.1,hn.2.1⟩).symm
def loadsS (w:Int):Prop:=w=8 ∨ w=16 ∨ w=32 ∨ w=64
instance (w:Int):Decidable (loadsS w):=inferInstanceAs (Decidable (w=8 ∨ w=16 ∨ w=32 ∨ w=64))
theorem loadable_spec (w:Int):∀ h nx,lim T 124 [.int .i64 w] h nx=some (.bool (decide (loadsS w)),h,nx):=by
 refine lim_iso tg124 rfl rfl rfl ?_
 simp (disch:=first | exact d_SB | fail) only [c124,EVS,Nat.reduceAdd,Nat.reduceSub,Int.reduceToNat,Nat.reduceMul,Nat.reduceEqDiff,Nat.reduceLeDiff,Int.reduceEq,Int.reduceLT,Int.reduceLE,↓reduceIte]
 repeat' (refine Ok_if (fun hb=>?_) (fun hb=>?_)<;>have h:=hb<;>(try simp only [decide_eq_true_eq,decide_eq_false_iff_not,Int.not_lt,Int.not_le] at h)<;>(simp (disch:=first | exact d_SB | fail) only [hb,c124,EVS,Nat.reduceAdd,Nat.reduceSub,Int.reduceToNat,Nat.reduceMul,Nat.reduceEqDiff,Nat.reduceLeDiff,Int.reduceEq,Int.reduceLT,Int.reduceLE,↓reduceIte])<;>(try clear hb))
 all_goals simp_all [loadsS]
abbrev Mem:=List (Int × Int)
def ceV (p:Int × Int):FV:=.agg [.int .u64 p.1,.int .u8 p.2]
theorem pu_m (l:Mem):pures (l.map ceV)=true:=pures_map (fun _=>rfl) _
theorem lo_m (b:Nat) (l:Mem):lows b (l.map ceV)=true:=lows_map (fun _=>rfl) _
theorem gd_m {l:Mem} {i:Nat} {d:FV} (h:i < l.length):(l.map ceV).getD i d=.agg [.int .u64 (l.getD i (0,0)).1,.int .u8 (l.getD i (0,0)).2]:=getD_map _ h
theorem LAWSm:type_of% (And.intro pu_m <| And.intro lo_m <| @gd_m):=And.intro pu_m <| And.intro lo_m <| @gd_m
theorem d_SL {P:Prop} (h:P:=by first|omega|(simp only[EVL]<;>omega)|(simp only[hget_c,Nat.reduceEqDiff,↓reduceIte];done)|assumption|(simp (disch:=omega) only[hg_ne,hg_eq,hgs_ne, *];done)|(simp only [LAWSm];done)|with_unfolding_all rfl):P:=h
theorem toNat_sub1 (i:Nat):((i:Int) - 1).toNat=i - 1:=by omega
theorem upTo {p:Nat→Prop} {i:Nat} (h:∀ j,j < i→p j) (hi:p i):∀ j,j < i + 1→p j:=fun j hj=>by
 by_cases e:j=i
 ·subst e;exact hi
 ·exact h j (by omega)
def goodM (m:Mem) (i:Nat):Prop:=(m.getD i (0,0)).2 ≠ 0∧(i ≠ 0→(m.getD (i - 1) (0,0)).1 < (m.getD i (0,0)).1)
def memS (m:Mem):Prop:=m.length ≤ 4096∧∀ i,i < m.length→goodM m i
open Classical in
noncomputable def chkM (m:Mem):Int:=if memS m then 0 else 8
theorem chkM_ok {m:Mem} (h1:m.length ≤ 4096) (h2:∀ i,i < m.length→goodM m i):0=chkM m:=(if_pos ⟨h1,h2⟩).symm
theorem chkM_no {m:Mem} (h:¬ memS m):8=chkM m:=(if_neg h).symm
theorem checkCells_loop (e:Bool) (m:Mem) (hl:m.length ≤ 4096):∀ (k i:Nat),i + k=m.length→(∀ j,j < i→goodM m j) →
  @Ok Out (runs T [.code b37_0,.inL (some 7) b37_0,.inB 0,.code k37_1] [(0,.lst e (m.map ceV)),(8,.lst e (m.map ceV)),(9,.int .i64 m.length),(10,.int .i64 i)] [] 7) ⟨fun x=>resV c37.res x=some (.int .i64 (chkM m))⟩:=by
 intro k
 induction k with
 |zero =>
  intro i hi hok
  have:¬ (i:Int) < m.length:=by omega
  simp (disch:=first | exact d_SL | fail) only [unf b37_0.eq_1,unf k37_1.eq_1,c37,this,EVS,Nat.reduceAdd,Nat.reduceSub,Int.reduceToNat,Nat.reduceMul,Nat.reduceEqDiff,Nat.reduceLeDiff,Int.reduceEq,Int.reduceLT,Int.reduceLE,↓reduceIte]
  exact chkM_ok hl fun j hj=>hok j (by omega)
 |succ k ih =>
  intro i hi hok
  have:(i:Int) < m.length:=by omega
  simp (disch:=first | exact d_SL | fail) only [unf b37_0.eq_1,c37,this,LAWSm,EVS,Nat.reduceAdd,Nat.reduceSub,Int.reduceToNat,Nat.reduceMul,Nat.reduceEqDiff,Nat.reduceLeDiff,Int.reduceEq,Int.reduceLT,Int.reduceLE,↓reduceIte]
  repeat' (refine Ok_if (fun hb=>?_) (fun hb=>?_)<;>have h:=hb<;>(try simp only [decide_eq_true_eq,decide_eq_false_iff_not,Int.not_lt,Int.not_le] at h)<;>(simp (disch:=first | exact d_SL | fail) only [hb,c37,LAWSm,gd_m,toNat_sub1,EVS,Nat.reduceAdd,Nat.reduceSub,Int.reduceToNat,Nat.reduceMul,Nat.reduceEqDiff,Nat.reduceLeDiff,Int.reduceEq,Int.reduceLT,Int.reduceLE,↓reduceIte])<;>(try clear hb))
  all_goals first
   |exact Ok_inL (by decide) (by simp [lowTm,low,lows,LAWSm]) (by simp [cutH,lowHeap,lowObj,lows,low,LAWSm]) (ih (i + 1) (by omega) (upTo hok ⟨by omega,fun _=>by omega⟩))
   |exact chkM_no fun hg=>by
     have:=hg.2 i (by omega);unfold goodM at this;omega
theorem checkCells_spec (e:Bool) (m:Mem) (h0:m.length ≤ 9223372036854775807):∀ h nx,lim T 37 [.lst e (m.map ceV)] h nx=some (.int .i64 (chkM m),h,nx):=by
 refine lim_iso tg37 rfl rfl (by simp [pures,pure_,pu_m]) ?_
 simp (disch:=first | exact d_SL | fail) only [c37,LAWSm,EVS,Nat.reduceAdd,Nat.reduceSub,Int.reduceToNat,Nat.reduceMul,Nat.reduceEqDiff,Nat.reduceLeDiff,Int.reduceEq,Int.reduceLT,Int.reduceLE,↓reduceIte]
 repeat' (refine Ok_if (fun hb=>?_) (fun hb=>?_)<;>have h:=hb<;>(try simp only [decide_eq_true_eq,decide_eq_false_iff_not,Int.not_lt,Int.not_le] at h)<;>(simp (disch:=first | exact d_SL | fail) only [hb,c37,LAWSm,EVS,Nat.reduceAdd,Nat.reduceSub,Int.reduceToNat,Nat.reduceMul,Nat.reduceEqDiff,Nat.reduceLeDiff,Int.reduceEq,Int.reduceLT,Int.reduceLE,↓reduceIte])<;>(try clear hb))
 ·exact chkM_no fun hg=>by have:=hg.1;omega
 ·exact checkCells_loop e m (by omega) m.length 0 (by omega) (by omega)
theorem cmpC_spec (a b c:Int):∀ h nx,lim T 120 [.agg [.int .u64 a,.int .u8 b],.int .u64 c] h nx=some (.int .i64 (if a < c then -1 else if c < a then 1 else 0),h,nx):=by
 refine lim_iso tg120 rfl rfl rfl ?_
 simp (disch:=first | exact d_SL | fail) only [c120,EVS,Nat.reduceAdd,Nat.reduceSub,Int.reduceToNat,Nat.reduceMul,Nat.reduceEqDiff,Nat.reduceLeDiff,Int.reduceEq,Int.reduceLT,Int.reduceLE,↓reduceIte]
 repeat' (refine Ok_if (fun hb=>?_) (fun hb=>?_)<;>have h:=hb<;>(try simp only [decide_eq_true_eq,decide_eq_false_iff_not,Int.not_lt,Int.not_le] at h)<;>(simp (disch:=first | exact d_SL | fail) only [hb,c120,EVS,Nat.reduceAdd,Nat.reduceSub,Int.reduceToNat,Nat.reduceMul,Nat.reduceEqDiff,Nat.reduceLeDiff,Int.reduceEq,Int.reduceLT,Int.reduceLE,↓reduceIte])<;>(try clear hb))
 all_goals ((repeat' split)<;>first | rfl | omega)
def lbM (m:Mem) (a:Int):Nat:=(m.takeWhile fun p=>decide (p.1 < a)).length
theorem lbM_le (m:Mem) (a:Int):lbM m a ≤ m.length:=(List.takeWhile_prefix _).length_le
theorem sorted_lt {m:Mem} (h:∀ i,i < m.length→goodM m i):∀ (k i:Nat),i + k + 1 < m.length→(m.getD i (0,0)).1 < (m.getD (i + k + 1) (0,0)).1:=by
 intro k
 induction k with
 |zero=>intro i hi;have:=(h (i + 1) (by omega)).2 (by omega);simpa using this
 |succ k ih =>
  intro i hi
  have h1:=ih i (by omega)
  have h2:=(h (i + (k + 1) + 1) (by omega)).2 (by omega)
  have e:i + (k + 1) + 1 - 1=i + k + 1:=by omega
  rw [e] at h2
  omega
theorem lb_below:∀ (m:Mem) (a:Int) (i:Nat),i < lbM m a→(m.getD i (0,0)).1 < a:=by
 intro m
 induction m with
 |nil=>intro a i h;simp [lbM] at h
 |cons p m ih =>
  intro a i h
  by_cases hp:p.1 < a
  ·cases i with
   |zero=>simpa using hp
   |succ i =>
    have:i < lbM m a:=by simp [lbM,List.takeWhile_cons,hp] at h;simpa [lbM] using h
    simpa using ih a i this
  ·simp [lbM,List.takeWhile_cons,hp] at h
theorem lb_at:∀ (m:Mem) (a:Int),lbM m a < m.length→a ≤ (m.getD (lbM m a) (0,0)).1:=by
 intro m
 induction m with
 |nil=>intro a h;simp at h
 |cons p m ih =>
  intro a h
  by_cases hp:p.1 < a
  ·have e:lbM (p::m) a=lbM m a + 1:=by simp [lbM,List.takeWhile_cons,hp]
   rw [e] at h ⊢
   simpa using ih a (by simpa using h)
  ·have e:lbM (p::m) a=0:=by simp [lbM,List.takeWhile_cons,hp]
   rw [e];simp;omega
theorem lb_lt_iff {m:Mem} (hs:∀ i,i < m.length→goodM m i) (a:Int) (i:Nat) (hi:i < m.length):(m.getD i (0,0)).1 < a ↔ i < lbM m a:=by
 constructor
 ·intro h
  rcases Nat.lt_or_ge i (lbM m a) with h1 | h1
  ·exact h1
  ·exfalso
   have h2:=lb_at m a (by omega)
   rcases Nat.eq_or_lt_of_le h1 with h3 | h3
   ·rw [h3] at h2;omega
   ·have:=sorted_lt hs (i - lbM m a - 1) (lbM m a) (by omega)
    rw [show lbM m a + (i - lbM m a - 1) + 1=i by omega] at this
    omega
 ·exact lb_below m a i
def foundM (m:Mem) (a:Int):Bool:=decide (lbM m a < m.length∧(m.getD (lbM m a) (0,0)).1=a)
theorem half_nat (i j:Nat) (h:i + j ≤ 1000000):shr .u64 ((i:Int) + (j:Int)) 1=(((i + j) / 2:Nat):Int):=by
 rw [show (1:Int)=((1:Nat):Int) from rfl,shr_nat (by omega) (by omega),Nat.shiftRight_eq_div_pow]
 omega
theorem bsC_loop (e:Bool) (m:Mem) (a:Int) (hs:memS m):∀ (k i j:Nat),j - i ≤ k→i ≤ lbM m a→lbM m a ≤ j→j ≤ m.length →
  @Ok Out (runs T [.code b119_0,.inL (some 8) b119_0,.inB 0,.code k119_1] [(0,.lst e (m.map ceV)),(1,.int .u64 a),(2,.fn 120 []),(8,.int .i64 m.length),(9,.int .i64 i),(10,.int .i64 j)] [] 8) ⟨fun x=>resV c119.res x=some (.tup [.int .i64 (lbM m a),.bool (foundM m a)])⟩:=by
 obtain ⟨h1,h2⟩:=hs
 intro k
 induction k with
 |zero =>
  intro i j hk hi hj hm
  have e:i=lbM m a:=by omega
  have:¬ (i:Int) < j:=by omega
  simp (disch:=first | exact d_SL | fail) only [unf b119_0.eq_1,unf k119_1.eq_1,c119,this,LAWSm,EVS,Nat.reduceAdd,Nat.reduceSub,Int.reduceToNat,Nat.reduceMul,Nat.reduceEqDiff,Nat.reduceLeDiff,Int.reduceEq,Int.reduceLT,Int.reduceLE,↓reduceIte]
  repeat' (refine Ok_if (fun hb=>?_) (fun hb=>?_)<;>have h:=hb<;>(try simp only [decide_eq_true_eq,decide_eq_false_iff_not,Int.not_lt,Int.not_le] at h)<;>(simp (disch:=first | exact d_SL | fail) only [hb,c119,LAWSm,gd_m,cmpC_spec,EVS,Nat.reduceAdd,Nat.reduceSub,Int.reduceToNat,Nat.reduceMul,Nat.reduceEqDiff,Nat.reduceLeDiff,Int.reduceEq,Int.reduceLT,Int.reduceLE,↓reduceIte])<;>(try clear hb))
  ·rw [← e]
   congr 2;simp only [List.cons.injEq,FV.bool.injEq,and_true,true_and]
   unfold foundM
   refine decide_eq_decide.2 ?_
   rw [← e]
   constructor
   ·intro hx
    refine ⟨by omega,?_⟩
    split at hx
    ·omega
    ·split at hx<;>omega
   ·rintro ⟨_,hx⟩;rw [if_neg (by omega),if_neg (by omega)]
  ·rw [e]
   congr 2;simp only [List.cons.injEq,FV.bool.injEq,and_true,true_and]
   exact (decide_eq_false fun hx=>by have:=hx.1;omega).symm
 |succ k ih =>
  intro i j hk hi hj hm
  by_cases hij:i < j
  ·have:(i:Int) < j:=by omega
   have hh:=half_nat i j (by omega)
   have hc:=lb_lt_iff h2 a ((i + j) / 2) (by omega)
   simp (disch:=first | exact d_SL | fail) only [unf b119_0.eq_1,c119,this,LAWSm,hh,cmpC_spec,EVS,Nat.reduceAdd,Nat.reduceSub,Int.reduceToNat,Nat.reduceMul,Nat.reduceEqDiff,Nat.reduceLeDiff,Int.reduceEq,Int.reduceLT,Int.reduceLE,↓reduceIte]
   repeat' (refine Ok_if (fun hb=>?_) (fun hb=>?_)<;>have h:=hb<;>(try simp only [decide_eq_true_eq,decide_eq_false_iff_not,Int.not_lt,Int.not_le] at h)<;>(simp (disch:=first | exact d_SL | fail) only [hb,c119,LAWSm,gd_m,cmpC_spec,EVS,Nat.reduceAdd,Nat.reduceSub,Int.reduceToNat,Nat.reduceMul,Nat.reduceEqDiff,Nat.reduceLeDiff,Int.reduceEq,Int.reduceLT,Int.reduceLE,↓reduceIte])<;>(try clear hb))
   ·have:(m.getD ((i + j) / 2) (0,0)).1 < a:=by
     rcases Int.lt_or_le (m.getD ((i + j) / 2) (0,0)).1 a with h0 | h0
     ·exact h0
     ·rw [if_neg (by omega)] at h;split at h<;>omega
    exact Ok_inL (by decide) (by simp [lowTm,low,lows,LAWSm]) (by simp [cutH,lowHeap,lowObj,lows,low,LAWSm]) (ih ((i + j) / 2 + 1) j (by omega) (by omega) hj hm)
   ·have:¬ (m.getD ((i + j) / 2) (0,0)).1 < a:=fun h0=>by
     rw [if_pos h0] at h;omega
    exact Ok_inL (by decide) (by simp [lowTm,low,lows,LAWSm]) (by simp [cutH,lowHeap,lowObj,lows,low,LAWSm]) (ih i ((i + j) / 2) (by omega) hi (by omega) (by omega))
  ·exact ih i j (by omega) hi hj hm
theorem bsC_spec (e:Bool) (m:Mem) (a:Int) (hs:memS m):∀ h nx,lim T 119 [.lst e (m.map ceV),.int .u64 a,.fn 120 []] h nx=some (.tup [.int .i64 (lbM m a),.bool (foundM m a)],h,nx):=by
 have h1:=hs.1
 refine lim_iso tg119 rfl rfl (by simp [pures,pure_,pu_m]) ?_
 simp (disch:=first | exact d_SL | fail) only [c119,LAWSm,EVS,Nat.reduceAdd,Nat.reduceSub,Int.reduceToNat,Nat.reduceMul,Nat.reduceEqDiff,Nat.reduceLeDiff,Int.reduceEq,Int.reduceLT,Int.reduceLE,↓reduceIte]
 exact bsC_loop e m a hs m.length 0 m.length (by omega) (by omega) (lbM_le m a) (by omega)
def byteS (m:Mem) (a:Int):Int:=if foundM m a=true then (m.getD (lbM m a) (0,0)).2 else 0
def addrS (w at_:Int) (i:Nat):Int:=(at_ + i) % 18446744073709551616 % 2 ^ w.toNat
def ldS (m:Mem) (w at_:Int):Nat→Nat
 |0=>0
 |i + 1=>ldS m w at_ i ||| (byteS m (addrS w at_ i)).toNat <<< (8 * i)
def okM (m:Mem):Prop:=∀ p ∈ m,0 ≤ p.1∧p.1 < 18446744073709551616∧0 ≤ p.2∧p.2 < 256
theorem byteS_bd {m:Mem} (h:okM m) (a:Int):0 ≤ byteS m a∧byteS m a < 256:=by
 unfold byteS
 split
 ·rename_i hf
  unfold foundM at hf
  have:=h _ (getD_mem (d:=(0,0)) (of_decide_eq_true hf).1)
  omega
 ·omega
theorem ldS_lt {m:Mem} (h:okM m) (w at_:Int):∀ n,ldS m w at_ n < 2 ^ (8 * n):=by
 intro n
 induction n with
 |zero=>simp [ldS]
 |succ n ih =>
  have hb:=byteS_bd h (addrS w at_ n)
  simp only [ldS]
  refine Nat.or_lt_two_pow (Nat.lt_of_lt_of_le ih (Nat.pow_le_pow_right (by decide) (by omega))) ?_
  rw [Nat.shiftLeft_eq,show 8 * (n + 1)=8 + 8 * n by omega,Nat.pow_add]
  exact Nat.mul_lt_mul_of_pos_right (by omega) (Nat.pow_pos (by decide))
theorem loaded_loop (e:Bool) (m:Mem) (w at_:Int) (n:Nat) (hs:memS m) (hm:okM m) (hw:1 ≤ w) (hw':w ≤ 64) (ha:0 ≤ at_) (ha':at_ < 18446744073709551616) (hn:n ≤ 8):∀ (k i:Nat),i + k=n →
  @Ok Out (runs T [.code b69_0,.inL (some 5) b69_0,.inB 0,.code k69_1] [(0,.lst e (m.map ceV)),(1,.int .i64 w),(2,.int .u64 at_),(9,.int .u64 (ldS m w at_ i:Nat)),(15,.int .i64 n),(16,.int .i64 i)] [] 5) ⟨fun x=>resV c69.res x=some (.int .u64 (ldS m w at_ n:Nat))⟩:=by
 obtain ⟨h1,h2⟩:=hs
 intro k
 induction k with
 |zero =>
  intro i hi
  have:¬ (i:Int) < n:=by omega
  simp (disch:=first | exact d_SL | fail) only [unf b69_0.eq_1,unf k69_1.eq_1,c69,this,LAWSm,EVS,Nat.reduceAdd,Nat.reduceSub,Int.reduceToNat,Nat.reduceMul,Nat.reduceEqDiff,Nat.reduceLeDiff,Int.reduceEq,Int.reduceLT,Int.reduceLE,↓reduceIte]
  rw [show i=n by omega]
 |succ k ih =>
  intro i hi
  have:(i:Int) < n:=by omega
  have hw1:IntKind.u64.wrap i=i:=by rw [wrapu (by omega)];omega
  have hw2:IntKind.u64.wrap (at_ + i)=(at_ + i) % 18446744073709551616:=wrapu (by omega)
  have hm1:=band_mask (a:=(at_ + i) % 18446744073709551616) (n:=w.toNat) (by omega) (by omega) (by omega)
  have hb:=bsC_spec e m (addrS w at_ i) ⟨h1,h2⟩
  unfold addrS at hb
  have hbd:=byteS_bd hm (addrS w at_ i)
  have hbv:byteS m (addrS w at_ i)=if foundM m (addrS w at_ i)=true then (m.getD (lbM m (addrS w at_ i)) (0,0)).2 else 0:=rfl
  have hlt:=ldS_lt hm w at_ i
  have hp8:(2:Nat) ^ (8 * i) ≤ 2 ^ 56:=Nat.pow_le_pow_right (by decide) (by omega)
  have hsl:=shl_nat (a:=byteS m (addrS w at_ i)) (n:=8 * i) hbd.1 (by omega) (by
   have h8:((2:Int) ^ (8 * i)) ≤ 2 ^ 56:=pow_le (by omega)
   have:=Int.mul_le_mul (show byteS m (addrS w at_ i) ≤ 255 by omega) h8 (by have:=pow_pos' (8 * i);omega) (by decide)
   omega)
  have hls:ldS m w at_ (i + 1)=ldS m w at_ i ||| (byteS m (addrS w at_ i)).toNat <<< (8 * i):=rfl
  have hl2:=ldS_lt hm w at_ (i + 1)
  have hq8:(2:Nat) ^ (8 * (i + 1)) ≤ 2 ^ 64:=Nat.pow_le_pow_right (by decide) (by omega)
  have hs2:(byteS m (addrS w at_ i)).toNat <<< (8 * i) ≤ ldS m w at_ (i + 1):=by rw [hls];exact Nat.right_le_or
  have hor:=bor_nat (a:=(ldS m w at_ i:Nat)) (b:=((byteS m (addrS w at_ i)).toNat <<< (8 * i):Nat)) (by omega) (by omega) (Int.natCast_nonneg _) (by omega)
  simp only [Int.toNat_natCast,← hls] at hor
  rw [← hsl] at hor
  simp only [Int.natCast_mul,Int.cast_ofNat_Int] at hor
  cases hf:foundM m (addrS w at_ i) with
  |true =>
   have hlm:lbM m (addrS w at_ i) < m.length:=by unfold foundM at hf;exact (of_decide_eq_true hf).1
   rw [if_pos hf] at hbv
   rw [hbv] at hor hbd
   unfold addrS at hor hbd hf hlm
   simp (disch:=first | exact d_SL | fail) only [unf b69_0.eq_1,c69,this,LAWSm,mask_spec' w hw hw',hw1,hw2,hm1,hb,hf,hlm,gd_m,hor,EVS,Nat.reduceAdd,Nat.reduceSub,Int.reduceToNat,Nat.reduceMul,Nat.reduceEqDiff,Nat.reduceLeDiff,Int.reduceEq,Int.reduceLT,Int.reduceLE,↓reduceIte]
   exact Ok_inL (by decide) (by simp [lowTm,low,lows,LAWSm]) (by simp [cutH,lowHeap,lowObj,lows,low,LAWSm]) (ih (i + 1) (by omega))
  |false =>
   rw [if_neg (by simp [hf])] at hbv
   have heq:ldS m w at_ (i + 1)=ldS m w at_ i:=by rw [hls,hbv];simp
   have hih:=ih (i + 1) (by omega)
   rw [heq] at hih
   unfold addrS at hf
   simp (disch:=first | exact d_SL | fail) only [unf b69_0.eq_1,c69,this,LAWSm,mask_spec' w hw hw',hw1,hw2,hm1,hb,hf,EVS,Nat.reduceAdd,Nat.reduceSub,Int.reduceToNat,Nat.reduceMul,Nat.reduceEqDiff,Nat.reduceLeDiff,Int.reduceEq,Int.reduceLT,Int.reduceLE,↓reduceIte]
   exact Ok_inL (by decide) (by simp [lowTm,low,lows,LAWSm]) (by simp [cutH,lowHeap,lowObj,lows,low,LAWSm]) (hih)
theorem loaded_spec (e:Bool) (m:Mem) (w at_:Int) (n:Nat) (hs:memS m) (hm:okM m) (hw:1 ≤ w) (hw':w ≤ 64) (ha:0 ≤ at_) (ha':at_ < 18446744073709551616) (hn:n ≤ 64):∀ h nx,lim T 69 [.lst e (m.map ceV),.int .i64 w,.int .u64 at_,.int .i64 n] h nx=some (.int .u64 (ldS m w at_ (n / 8):Nat),h,nx):=by
 refine lim_iso tg69 rfl rfl (by simp [pures,pure_,pu_m]) ?_
 simp (disch:=first | exact d_SL | fail) only [c69,LAWSm,tdiv_nn,EVS,Nat.reduceAdd,Nat.reduceSub,Int.reduceToNat,Nat.reduceMul,Nat.reduceEqDiff,Nat.reduceLeDiff,Int.reduceEq,Int.reduceLT,Int.reduceLE,↓reduceIte]
 exact loaded_loop e m w at_ (n / 8) hs hm hw hw' ha ha' (by omega) (n / 8) 0 (by omega)
theorem d_SZ {P:Prop} (h:P:=by first|omega|(simp only[EVL]<;>omega)|(simp only[hget_c,Nat.reduceEqDiff,↓reduceIte];done)|assumption|(simp (disch:=omega) only[hg_ne,hg_eq,hgs_ne, *];done)|(simp only [TL];done)|with_unfolding_all rfl):P:=h
abbrev szP (n:Int) (h:Heap):Prop:=hget h 6=some (.lp 0 0)∧hget h 2=some (.row 1 [.int .i64 (IntKind.i64.wrap n)])
theorem size_spec (t:Te) (hl:size t ≤ 1000000):∀ h nx,lim T 23 [.agg [.int .u8 (t).k,.int .i64 (t).w,.int .u64 (t).b,.str (t).s,.int .i64 (t).lo,.lst (t).e ((t).l.map tV)]] h nx=some (.int .i64 (size t),h,nx):=by
 refine lim_iso tg23 rfl rfl (by simp [pures,pure_,pu_Ts]) ?_
 simp (disch:=first | exact d_SZ | fail) only [c23,nodes_spec,TL,EVS,Nat.reduceAdd,Nat.reduceSub,Int.reduceToNat,Nat.reduceMul,Nat.reduceEqDiff,Nat.reduceLeDiff,Int.reduceEq,Int.reduceLT,Int.reduceLE,↓reduceIte]
 refine Ok_call1 (walk_spec 1002300 6 7 [.ptr 2 1 0 0] (fun n _=>.inl (n + 1)) szP (fun (_:Empty) _=>True) (fun a h h' hp hk=>⟨(hk 6 (by omega)).trans hp.1,(hk 2 (by omega)).trans hp.2⟩) t hl ?_ 0 _ _ (by omega) ⟨rfl,rfl⟩) fun r hr=>?_
 ·intro x hx a h nx hb hp
  obtain ⟨p1,p2⟩:=hp
  rw [lim_round tg1002300 rfl rfl p1]
  show @Ok _ _ ⟨fun r=>ResR _ _ _ _ _ r _⟩
  simp only [r1002300]
  simp (disch:=first | exact d_SZ | fail) only [unf b23_0.eq_1,p1,p2,hgs_ne,hgs_eq,wrap_add,EVS,Nat.reduceAdd,Nat.reduceSub,Int.reduceToNat,Nat.reduceMul,Nat.reduceEqDiff,Nat.reduceLeDiff,Int.reduceEq,Int.reduceLT,Int.reduceLE,↓reduceIte]
  exact ⟨rfl,⟨by (simp (disch:=omega) only [hg_ne,hg_eq,hgs_ne,hgx_e,Option.map_some, *]),by (simp (disch:=omega) only [hg_ne,hg_eq,hgs_ne,hgx_e,Option.map_some, *])⟩,⟨by dsimp only;omega,fun i hi hl=>by simp (disch:=omega) only [hg_ne,hgs_ne]⟩⟩
 ·rw [foldE_count,nodesT_len] at hr
  obtain ⟨v,h',nx'⟩:=r
  obtain ⟨rfl,⟨p1,p2⟩,hf⟩:=hr
  dsimp only at p1 p2
  refine ⟨rfl,?_⟩
  rw [Int.zero_add,wrap64 (by omega) (by omega)] at p2
  simp (disch:=first | exact d_SZ | fail) only [unf k23_1.eq_1,c23,p1,p2,hgs_ne,EVS,Nat.reduceAdd,Nat.reduceSub,Int.reduceToNat,Nat.reduceMul,Nat.reduceEqDiff,Nat.reduceLeDiff,Int.reduceEq,Int.reduceLT,Int.reduceLE,↓reduceIte]
theorem depth_loop (t:Te) (ih:∀ x ∈ t.l,∀ h nx,lim T 24 [.agg [.int .u8 (x).k,.int .i64 (x).w,.int .u64 (x).b,.str (x).s,.int .i64 (x).lo,.lst (x).e ((x).l.map tV)]] h nx=some (.int .i64 (depth x),h,nx)) (hl:t.l.length ≤ 1000000) (hd:depth t ≤ 1000000):∀ (k i:Nat) (d:Int),i + k=t.l.length→0 ≤ d→d ≤ 1000000 →
  @Ok Out (runs T [.code b24_0,.inL (some 7) b24_0,.inB 0,.code k24_1] [(3,.int .i64 d),(7,.lst t.e (t.l.map tV)),(8,.int .i64 t.l.length),(9,.int .i64 i)] [(0,.row 6 [.agg [.int .u8 (t).k,.int .i64 (t).w,.int .u64 (t).b,.str (t).s,.int .i64 (t).lo,.lst (t).e ((t).l.map tV)]])] 7) ⟨fun x=>resV c24.res x=some (.int .i64 (max d (depths (t.l.drop i)) + 1))⟩:=by
 intro k
 induction k with
 |zero =>
  intro i d hi h0 h1
  have:¬ (i:Int) < t.l.length:=by omega
  simp (disch:=first | exact d_SZ | fail) only [unf b24_0.eq_1,unf k24_1.eq_1,c24,this,TL,EVS,Nat.reduceAdd,Nat.reduceSub,Int.reduceToNat,Nat.reduceMul,Nat.reduceEqDiff,Nat.reduceLeDiff,Int.reduceEq,Int.reduceLT,Int.reduceLE,↓reduceIte]
  rw [List.drop_eq_nil_of_le (by omega)]
  show d + 1=max d ((0:Nat):Int) + 1
  omega
 |succ k ihk =>
  intro i d hi h0 h1
  have:(i:Int) < t.l.length:=by omega
  have hx:=ih _ (getD_mem (d:=default) (show i < t.l.length by omega))
  have hdx:depth (t.l.getD i default) ≤ depths t.l:=depths_mem (getD_mem (by omega))
  rw [depth_eq] at hd
  simp (disch:=first | exact d_SZ | fail) only [unf b24_0.eq_1,c24,this,TL,hx,EVS,Nat.reduceAdd,Nat.reduceSub,Int.reduceToNat,Nat.reduceMul,Nat.reduceEqDiff,Nat.reduceLeDiff,Int.reduceEq,Int.reduceLT,Int.reduceLE,↓reduceIte]
  have hq:=ihk (i + 1) (max d (depth (t.l.getD i default))) (by omega) (by omega) (by omega)
  rw [depths_drop (by omega)]
  have e:max d ((max (depth (t.l.getD i default)) (depths (t.l.drop (i + 1))):Nat):Int)=max (max d (depth (t.l.getD i default))) (depths (t.l.drop (i + 1))):=by omega
  rw [e]
  exact Ok_inL (by decide) (by simp [lowTm,low,lows,TL]) (by simp [cutH,lowHeap,lowObj,lows,low,TL]) hq
theorem depth_spec (t:Te) (hl:size t ≤ 1000000):∀ h nx,lim T 24 [.agg [.int .u8 (t).k,.int .i64 (t).w,.int .u64 (t).b,.str (t).s,.int .i64 (t).lo,.lst (t).e ((t).l.map tV)]] h nx=some (.int .i64 (depth t),h,nx):=by
 induction t using Tm'.ind with
 |h t ih =>
 have hsz:=sizes_len t.l
 have hds:=depth_size t
 have hse:=size_eq t
 refine lim_iso tg24 rfl rfl (by simp [pures,pure_,pu_Ts]) ?_
 simp (disch:=first | exact d_SZ | fail) only [c24,TL,EVS,Nat.reduceAdd,Nat.reduceSub,Int.reduceToNat,Nat.reduceMul,Nat.reduceEqDiff,Nat.reduceLeDiff,Int.reduceEq,Int.reduceLT,Int.reduceLE,↓reduceIte]
 have:=depth_loop t (fun x hx=>ih x hx (by have:=size_mem hx;omega)) (by omega) (by omega) t.l.length 0 0 (by omega) (by omega) (by omega)
 rw [depth_eq]
 rw [List.drop_zero,show max (0:Int) (depths t.l)=depths t.l by omega] at this
 exact_mod_cast this
theorem d_SN {P:Prop} (h:P:=by first|omega|(simp only[EVL]<;>omega)|(simp only[hget_c,Nat.reduceEqDiff,↓reduceIte];done)|assumption|(simp (disch:=omega) only[hg_ne,hg_eq,hgs_ne, *];done)|(simp only [TL];done)|with_unfolding_all rfl):P:=h
def okAt (s:List UInt8) (i:Nat):Prop:=(97 ≤ (s.getD i 0).toNat∧(s.getD i 0).toNat ≤ 122) ∨ (65 ≤ (s.getD i 0).toNat∧(s.getD i 0).toNat ≤ 90) ∨ (i ≠ 0∧((s.getD i 0).toNat=95 ∨ (48 ≤ (s.getD i 0).toNat∧(s.getD i 0).toNat ≤ 57)))
def nameS (s:List UInt8):Prop:=1 ≤ s.length∧s.length ≤ 24∧∀ i,i < s.length→okAt s i
open Classical in
theorem name_loop (s:List UInt8) (h1:1 ≤ s.length) (h2:s.length ≤ 24):∀ (k i:Nat),i + k=s.length→(∀ j,j < i→okAt s j) →
  @Ok Out (runs T [.code b112_0,.inL (some 12) b112_0,.inB 0,.code k112_1] [(0,.str s),(15,.int .i64 s.length),(16,.int .i64 i)] [] 12) ⟨fun x=>resV c112.res x=some (.bool (decide (nameS s)))⟩:=by
 intro k
 induction k with
 |zero =>
  intro i hi hok
  have:¬ (i:Int) < s.length:=by omega
  simp (disch:=first | exact d_SN | fail) only [unf b112_0.eq_1,unf k112_1.eq_1,c112,this,EVS,Nat.reduceAdd,Nat.reduceSub,Int.reduceToNat,Nat.reduceMul,Nat.reduceEqDiff,Nat.reduceLeDiff,Int.reduceEq,Int.reduceLT,Int.reduceLE,↓reduceIte]
  exact (decide_eq_true ⟨h1,h2,fun j hj=>hok j (by omega)⟩).symm
 |succ k ih =>
  intro i hi hok
  have hs:okAt s i→∀ j,j < i + 1→okAt s j:=fun ho j hj=>by
   by_cases e:j=i
   ·subst e;exact ho
   ·exact hok j (by omega)
  have:(i:Int) < s.length:=by omega
  simp (disch:=first | exact d_SN | fail) only [unf b112_0.eq_1,c112,this,EVS,Nat.reduceAdd,Nat.reduceSub,Int.reduceToNat,Nat.reduceMul,Nat.reduceEqDiff,Nat.reduceLeDiff,Int.reduceEq,Int.reduceLT,Int.reduceLE,↓reduceIte]
  repeat' (refine Ok_if (fun hb=>?_) (fun hb=>?_)<;>have h:=hb<;>(try simp only [decide_eq_true_eq,decide_eq_false_iff_not,Int.not_lt,Int.not_le] at h)<;>(simp (disch:=first | exact d_SN | fail) only [hb,c112,EVS,Nat.reduceAdd,Nat.reduceSub,Int.reduceToNat,Nat.reduceMul,Nat.reduceEqDiff,Nat.reduceLeDiff,Int.reduceEq,Int.reduceLT,Int.reduceLE,↓reduceIte])<;>(try clear hb))
  all_goals first
   |exact Ok_inL (by decide) (by simp [lowTm,low]) (by simp [lowHeap,cutH]) (ih (i + 1) (by omega) (hs (by unfold okAt;omega)))
   |exact (decide_eq_false fun hn=>by have:=hn.2.2 i (by omega);unfold okAt at this;omega).symm
open Classical in
theorem nameB_spec (s:List UInt8):∀ h nx,lim T 112 [.str s] h nx=some (.bool (decide (nameS s)),h,nx):=by
 refine lim_iso tg112 rfl rfl rfl ?_
 simp (disch:=first | exact d_SN | fail) only [c112,EVS,Nat.reduceAdd,Nat.reduceSub,Int.reduceToNat,Nat.reduceMul,Nat.reduceEqDiff,Nat.reduceLeDiff,Int.reduceEq,Int.reduceLT,Int.reduceLE,↓reduceIte]
 repeat' (refine Ok_if (fun hb=>?_) (fun hb=>?_)<;>have h:=hb<;>(try simp only [decide_eq_true_eq,decide_eq_false_iff_not,Int.not_lt,Int.not_le] at h)<;>(simp (disch:=first | exact d_SN | fail) only [hb,c112,EVS,Nat.reduceAdd,Nat.reduceSub,Int.reduceToNat,Nat.reduceMul,Nat.reduceEqDiff,Nat.reduceLeDiff,Int.reduceEq,Int.reduceLT,Int.reduceLE,↓reduceIte])<;>(try clear hb))
 ·exact (decide_eq_false fun hn=>by have:=hn.1;omega).symm
 ·exact (decide_eq_false fun hn=>by have:=hn.2.1;omega).symm
 ·exact name_loop s (by omega) (by omega) s.length 0 (by omega) (by omega)
def strip (s:List UInt8):List UInt8:=if 2 ≤ s.length∧s.take 2=[114,46] then s.drop 2 else s
theorem hasP2_spec (s p:List UInt8):∀ h nx,lim T 156 [.str s,.str p] h nx=some (.bool (decide (p.length ≤ s.length∧s.take p.length=p)),h,nx):=by
 refine lim_iso tg156 rfl rfl rfl ?_
 simp (disch:=first | exact d_SN | fail) only [c156,EVS,Nat.reduceAdd,Nat.reduceSub,Int.reduceToNat,Nat.reduceMul,Nat.reduceEqDiff,Nat.reduceLeDiff,Int.reduceEq,Int.reduceLT,Int.reduceLE,↓reduceIte]
 repeat' (refine Ok_if (fun hb=>?_) (fun hb=>?_)<;>have h:=hb<;>(try simp only [decide_eq_true_eq,decide_eq_false_iff_not,Int.not_lt,Int.not_le] at h)<;>(simp (disch:=first | exact d_SN | fail) only [hb,c156,EVS,Nat.reduceAdd,Nat.reduceSub,Int.reduceToNat,Nat.reduceMul,Nat.reduceEqDiff,Nat.reduceLeDiff,Int.reduceEq,Int.reduceLT,Int.reduceLE,↓reduceIte])<;>(try clear hb))
 ·have h:p.length ≤ s.length:=by omega
  by_cases e:s.take p.length=p
  ·simp [e,h]
  ·simp [e,h]
 ·simp only [eq_comm (a:=false),decide_eq_false_iff_not];omega
theorem trimP2_spec (s p:List UInt8):∀ h nx,lim T 163 [.str s,.str p] h nx=some (.str (if p.length ≤ s.length∧s.take p.length=p then s.drop p.length else s),h,nx):=by
 refine lim_iso tg163 rfl rfl rfl ?_
 simp (disch:=first | exact d_SN | fail) only [c163,hasP2_spec,EVS,Nat.reduceAdd,Nat.reduceSub,Int.reduceToNat,Nat.reduceMul,Nat.reduceEqDiff,Nat.reduceLeDiff,Int.reduceEq,Int.reduceLT,Int.reduceLE,↓reduceIte]
 repeat' (refine Ok_if (fun hb=>?_) (fun hb=>?_)<;>have h:=hb<;>(try simp only [decide_eq_true_eq,decide_eq_false_iff_not,Int.not_lt,Int.not_le] at h)<;>(simp (disch:=first | exact d_SN | fail) only [hb,c163,hasP2_spec,EVS,Nat.reduceAdd,Nat.reduceSub,Int.reduceToNat,Nat.reduceMul,Nat.reduceEqDiff,Nat.reduceLeDiff,Int.reduceEq,Int.reduceLT,Int.reduceLE,↓reduceIte])<;>(try clear hb))
 ·first | rfl | rw [if_pos h]
 ·first | rfl | rw [if_neg h]
theorem trimP_spec (s:List UInt8):∀ h nx,lim T 113 [.str s,.str [114,46]] h nx=some (.str (strip s),h,nx):=by
 refine lim_iso tg113 rfl rfl rfl ?_
 simp (disch:=first | exact d_SN | fail) only [c113,trimP2_spec,EVS,Nat.reduceAdd,Nat.reduceSub,Int.reduceToNat,Nat.reduceMul,Nat.reduceEqDiff,Nat.reduceLeDiff,Int.reduceEq,Int.reduceLT,Int.reduceLE,↓reduceIte]
 rfl
open Classical in
theorem varT_spec (s:List UInt8):∀ h nx,lim T 62 [.str s] h nx=some (.bool (decide (nameS (strip s))),h,nx):=by
 refine lim_iso tg62 rfl rfl rfl ?_
 simp (disch:=first | exact d_SN | fail) only [c62,trimP_spec,nameB_spec,EVS,Nat.reduceAdd,Nat.reduceSub,Int.reduceToNat,Nat.reduceMul,Nat.reduceEqDiff,Nat.reduceLeDiff,Int.reduceEq,Int.reduceLT,Int.reduceLE,↓reduceIte]
def partsS (k:Int):Int:=if k < 3 then 0 else if k < 5 then 1 else if k < 19 then 2 else if k=19 then 3 else if k=20 then 2 else if k ≤ 24 then 1 else 0
def howS (k:Int):Int:=if k < 3 then 0 else if k < 16 then 1 else if k < 19 then 2 else if k=19 then 3 else if k=20 then 4 else if k=21 then 5 else if k < 24 then 6 else if k=24 then 7 else 0
def wordS (k:Nat):List UInt8:=match k with
 |3=>[110,111,116] | 4=>[110,101,103] | 5=>[97,100,100] | 6=>[115,117,98] | 7=>[109,117,108] | 8=>[97,110,100] | 9=>[111,114] | 10=>[120,111,114] | 11=>[115,104,108] | 12=>[115,104,114] | 13=>[115,97,114]
 |14=>[117,100,105,118] | 15=>[117,114,101,109] | 16=>[101,113] | 17=>[117,108,116] | 18=>[115,108,116] | 19=>[105,116,101] | 20=>[99,111,110,99,97,116] | 21=>[101,120,116,114,97,99,116]
 |22=>[122,101,120,116] | 23=>[115,101,120,116] | 24=>[108,111,97,100] | _=>[]
def sameO (a:Option FV) (b:FV):Bool:=match a with
 |some v=>eqv v b
 |none=>false
theorem sameO_eq {a:Option FV} {b:FV} (h:sameO a b=true):a=some b:=by
 cases a with
 |none=>cases h
 |some v=>rw [eqv_eq h]
theorem gl0_at:∀ n:Nat,n < 25→eqvs (List.take (n * 3 + 3 - n * 3) (List.drop (n * 3) gl0)) [.str (wordS n),.int .i64 (partsS n),.int .i64 (howS n)]=true:=by decide +kernel
theorem gl0_len:gl0.length=75:=by decide +kernel
theorem gl0_p:∀ n:Nat,n < 25→sameO (cellsAt gl0 none (n * 3 + 1)) (.int .i64 (partsS n))=true:=by decide +kernel
theorem shaped_spec (k:Int) (h0:0 ≤ k):∀ h nx,lim T 74 [.int .u8 k] h nx=some (.tup [if k ≤ 24 then .agg [.str (wordS k.toNat),.int .i64 (partsS k),.int .i64 (howS k)] else .agg [.str [],.int .i64 0,.int .i64 0],.bool (decide (0 < partsS k))],h,nx):=by
 refine lim_iso tg74 rfl rfl rfl ?_
 simp (disch:=first | exact d_SN | fail) only [c74,EVS,Nat.reduceAdd,Nat.reduceSub,Int.reduceToNat,Nat.reduceMul,Nat.reduceEqDiff,Nat.reduceLeDiff,Int.reduceEq,Int.reduceLT,Int.reduceLE,↓reduceIte]
 repeat' (refine Ok_if (fun hb=>?_) (fun hb=>?_)<;>have h:=hb<;>(try simp only [decide_eq_true_eq,decide_eq_false_iff_not,Int.not_lt,Int.not_le] at h)<;>(simp (disch:=first | exact d_SN | fail) only [hb,c74,EVS,Nat.reduceAdd,Nat.reduceSub,Int.reduceToNat,Nat.reduceMul,Nat.reduceEqDiff,Nat.reduceLeDiff,Int.reduceEq,Int.reduceLT,Int.reduceLE,↓reduceIte])<;>(try clear hb))
 ·rw [if_neg (by omega),show partsS k=0 by unfold partsS;repeat' split<;>omega];rfl
 ·have h1:=eqvs_eq (gl0_at k.toNat (by omega))
  have h2:=sameO_eq (gl0_p k.toNat (by omega))
  have h3:k.toNat * 3 + 3 ≤ gl0.length:=by rw [gl0_len];omega
  have e:((k.toNat:Nat):Int)=k:=by omega
  rw [e] at h1 h2
  simp (disch:=first | exact d_SN | fail) only [c74,h1,h2,h3,EVS,Nat.reduceAdd,Nat.reduceSub,Int.reduceToNat,Nat.reduceMul,Nat.reduceEqDiff,Nat.reduceLeDiff,Int.reduceEq,Int.reduceLT,Int.reduceLE,↓reduceIte]
  rw [if_pos (by omega)]
theorem widths1_spec (t:Te) (w:Int):∀ h nx,lim T 123 [.agg [.int .u8 (t).k,.int .i64 (t).w,.int .u64 (t).b,.str (t).s,.int .i64 (t).lo,.lst (t).e ((t).l.map tV)],.eptr [.int .i64 w] 0] h nx=some (.bool (decide (t.w ≠ w)),h,nx):=by
 refine lim_iso tg123 rfl rfl (by simp [pures,pure_,pu_Ts]) ?_
 simp (disch:=first | exact d_SN | fail) only [c123,TL,EVS,Nat.reduceAdd,Nat.reduceSub,Int.reduceToNat,Nat.reduceMul,Nat.reduceEqDiff,Nat.reduceLeDiff,Int.reduceEq,Int.reduceLT,Int.reduceLE,↓reduceIte]
 simp
theorem idxT_loop (e:Bool) (l:List Te) (w:Int) (hl:l.length ≤ 1000000):∀ (k i:Nat),i + k=l.length→(∀ j,j < i→(l.getD j default).w=w) →
  @Ok Out (runs T [.code b180_0,.inL (some 4) b180_0,.inB 0,.code k180_1] [(0,.lst e (l.map tV)),(1,.fn 123 [.eptr [.int .i64 w] 0]),(7,.int .i64 l.length),(8,.int .i64 i)] [] 4) ⟨fun x=>@Ok FV (resV c180.res x) ⟨fun v=>∃ r:Int,v=.int .i64 r∧(0 ≤ r ↔ ¬ ∀ j,j < l.length→(l.getD j default).w=w)⟩⟩:=by
 intro k
 induction k with
 |zero =>
  intro i hi hok
  have:¬ (i:Int) < l.length:=by omega
  simp (disch:=first | exact d_SN | fail) only [unf b180_0.eq_1,unf k180_1.eq_1,c180,this,TL,EVS,Nat.reduceAdd,Nat.reduceSub,Int.reduceToNat,Nat.reduceMul,Nat.reduceEqDiff,Nat.reduceLeDiff,Int.reduceEq,Int.reduceLT,Int.reduceLE,↓reduceIte]
  exact ⟨_,rfl,⟨fun hh=>by omega,fun hh=>absurd (fun j hj=>hok j (by omega)) hh⟩⟩
 |succ k ih =>
  intro i hi hok
  have:(i:Int) < l.length:=by omega
  simp (disch:=first | exact d_SN | fail) only [unf b180_0.eq_1,c180,this,TL,widths1_spec,EVS,Nat.reduceAdd,Nat.reduceSub,Int.reduceToNat,Nat.reduceMul,Nat.reduceEqDiff,Nat.reduceLeDiff,Int.reduceEq,Int.reduceLT,Int.reduceLE,↓reduceIte]
  repeat' (refine Ok_if (fun hb=>?_) (fun hb=>?_)<;>have h:=hb<;>(try simp only [decide_eq_true_eq,decide_eq_false_iff_not,Int.not_lt,Int.not_le] at h)<;>(simp (disch:=first | exact d_SN | fail) only [hb,c180,TL,EVS,Nat.reduceAdd,Nat.reduceSub,Int.reduceToNat,Nat.reduceMul,Nat.reduceEqDiff,Nat.reduceLeDiff,Int.reduceEq,Int.reduceLT,Int.reduceLE,↓reduceIte])<;>(try clear hb))
  ·exact ⟨_,rfl,⟨fun _ hh=>h (hh i (by omega)),fun _=>by omega⟩⟩
  ·exact Ok_inL (by decide) (by simp [lowTm,low,lows,TL]) (by simp [cutH,lowHeap,lowObj,lows,low,TL]) (ih (i + 1) (by omega) (fun j hj=>by
    by_cases ej:j=i
    ·subst ej;omega
    ·exact hok j (by omega)))
theorem idxT_spec (e:Bool) (l:List Te) (w:Int) (hl:l.length ≤ 1000000):∃ r:Int,(0 ≤ r ↔ ¬ ∀ j,j < l.length→(l.getD j default).w=w)∧∀ h nx,lim T 180 [.lst e (l.map tV),.fn 123 [.eptr [.int .i64 w] 0]] h nx=some (.int .i64 r,h,nx):=by
 obtain ⟨v,⟨r,rfl,hr⟩,hh⟩:=lim_isoP (p:=fun v=>∃ r:Int,v=.int .i64 r∧(0 ≤ r ↔ ¬ ∀ j,j < l.length→(l.getD j default).w=w)) tg180 rfl (args:=[.lst e (l.map tV),.fn 123 [.eptr [.int .i64 w] 0]]) rfl (by simp [pures,pure_,pu_Ts]) (by
  simp (disch:=first | exact d_SN | fail) only [c180,TL,EVS,Nat.reduceAdd,Nat.reduceSub,Int.reduceToNat,Nat.reduceMul,Nat.reduceEqDiff,Nat.reduceLeDiff,Int.reduceEq,Int.reduceLT,Int.reduceLE,↓reduceIte]
  exact idxT_loop e l w hl l.length 0 (by omega) (by omega))
 exact ⟨r,hr,hh⟩
def allW (l:List Te) (w:Int):Prop:=∀ j,j < l.length→(l.getD j default).w=w
open Classical in
theorem contT_spec (e:Bool) (l:List Te) (w:Int) (hl:l.length ≤ 1000000) (h:Heap) (nx:Nat):isfR T c122 [.lst e (l.map tV),.fn 123 [.eptr [.int .i64 w] 0]] h nx=some (.bool (decide (¬ allW l w)),h,nx):=by
 obtain ⟨r,hr,hh⟩:=idxT_spec e l w hl
 refine isfR_of rfl ?_
 simp (disch:=first | exact d_SN | fail) only [c122,TL,hh,EVS,Nat.reduceAdd,Nat.reduceSub,Int.reduceToNat,Nat.reduceMul,Nat.reduceEqDiff,Nat.reduceLeDiff,Int.reduceEq,Int.reduceLT,Int.reduceLE,↓reduceIte]
 exact decide_eq_decide.2 hr
theorem contT_lim (a b:FV) (h:Heap) (nx:Nat):lim T 122 [a,b] h nx=@FI.B (List FV) (FV × Heap × Nat) (frzs h deep [a,b]) ⟨fun q=>isfR T c122 q h nx⟩:=lim_isf tg122 rfl rfl
def wideS (w:Int):Prop:=1 ≤ w∧w ≤ 64
instance (w:Int):Decidable (wideS w):=inferInstanceAs (Decidable (_∧_))
def subW (t:Te) (i:Nat):Int:=(t.l.getD i default).w
def widthsS (t:Te) (how:Int):Prop :=
 if how=1 then allW t.l t.w else if how=2 then t.w=1∧subW t 1=subW t 0 else if how=3 then subW t 0=1∧subW t 1=t.w∧subW t 2=t.w
 else if how=4 then wideS (subW t 0)∧wideS (subW t 1)∧subW t 0 + subW t 1=t.w
 else if how=5 then 0 ≤ t.lo∧wideS (subW t 0)∧t.w ≤ subW t 0∧t.lo ≤ subW t 0 - t.w
 else if how=6 then subW t 0 ≤ t.w else loadsS t.w
open Classical in
theorem widths_spec (t:Te) (k:Int) (hk:3 ≤ k∧k ≤ 24) (hp:t.l.length=partsS k) (hw:wideS t.w):∀ h nx,lim T 75 [.agg [.int .u8 (t).k,.int .i64 (t).w,.int .u64 (t).b,.str (t).s,.int .i64 (t).lo,.lst (t).e ((t).l.map tV)],.int .i64 (howS k)] h nx=some (.bool (decide (widthsS t (howS k))),h,nx):=by
 obtain ⟨w1,w2⟩:=id hw
 refine lim_iso tg75 rfl rfl (by simp [pures,pure_,pu_Ts]) ?_
 have hl1:1 ≤ t.l.length:=by unfold partsS at hp;(repeat' split at hp)<;>omega
 have cs:(howS k=1) ∨ (howS k=2∧2 ≤ t.l.length) ∨ (howS k=3∧3 ≤ t.l.length) ∨ (howS k=4∧2 ≤ t.l.length) ∨ howS k=5 ∨ howS k=6 ∨ howS k=7:=by
  unfold howS partsS at *
  (repeat' split)<;>(repeat' split at hp)<;>omega
 have hl2:t.l.length ≤ 1000000:=by unfold partsS at hp;(repeat' split at hp)<;>omega
 rcases cs with e | ⟨e,h2⟩ | ⟨e,h2⟩ | ⟨e,h2⟩ | e | e | e<;>rw [e]
 ·have hc:=contT_spec t.e t.l t.w hl2
  simp (disch:=first | exact d_SN | fail) only [c75,TL,contT_lim,elemAt_r hg_eq,hc,EVS,Nat.reduceAdd,Nat.reduceSub,Int.reduceToNat,Nat.reduceMul,Nat.reduceEqDiff,Nat.reduceLeDiff,Int.reduceEq,Int.reduceLT,Int.reduceLE,↓reduceIte]
  simp [widthsS]
 ·simp (disch:=first | exact d_SN | fail) only [c75,TL,EVS,Nat.reduceAdd,Nat.reduceSub,Int.reduceToNat,Nat.reduceMul,Nat.reduceEqDiff,Nat.reduceLeDiff,Int.reduceEq,Int.reduceLT,Int.reduceLE,↓reduceIte]
  repeat' (refine Ok_if (fun hb=>?_) (fun hb=>?_)<;>have h:=hb<;>(try simp only [decide_eq_true_eq,decide_eq_false_iff_not,Int.not_lt,Int.not_le] at h)<;>(simp (disch:=first | exact d_SN | fail) only [hb,c75,TL,EVS,Nat.reduceAdd,Nat.reduceSub,Int.reduceToNat,Nat.reduceMul,Nat.reduceEqDiff,Nat.reduceLeDiff,Int.reduceEq,Int.reduceLT,Int.reduceLE,↓reduceIte])<;>(try clear hb))
  all_goals (simp only [widthsS,Int.reduceEq,↓reduceIte];unfold subW;(try unfold wideS);first | exact decide_eq_decide.2 (by omega) | exact (decide_eq_false (by omega)).symm)
 ·simp (disch:=first | exact d_SN | fail) only [c75,TL,EVS,Nat.reduceAdd,Nat.reduceSub,Int.reduceToNat,Nat.reduceMul,Nat.reduceEqDiff,Nat.reduceLeDiff,Int.reduceEq,Int.reduceLT,Int.reduceLE,↓reduceIte]
  repeat' (refine Ok_if (fun hb=>?_) (fun hb=>?_)<;>have h:=hb<;>(try simp only [decide_eq_true_eq,decide_eq_false_iff_not,Int.not_lt,Int.not_le] at h)<;>(simp (disch:=first | exact d_SN | fail) only [hb,c75,TL,EVS,Nat.reduceAdd,Nat.reduceSub,Int.reduceToNat,Nat.reduceMul,Nat.reduceEqDiff,Nat.reduceLeDiff,Int.reduceEq,Int.reduceLT,Int.reduceLE,↓reduceIte])<;>(try clear hb))
  all_goals (simp only [widthsS,Int.reduceEq,↓reduceIte];unfold subW;(try unfold wideS);first | exact decide_eq_decide.2 (by omega) | exact (decide_eq_false (by omega)).symm)
 ·simp (disch:=first | exact d_SN | fail) only [c75,TL,wideT_spec,EVS,Nat.reduceAdd,Nat.reduceSub,Int.reduceToNat,Nat.reduceMul,Nat.reduceEqDiff,Nat.reduceLeDiff,Int.reduceEq,Int.reduceLT,Int.reduceLE,↓reduceIte]
  repeat' (refine Ok_if (fun hb=>?_) (fun hb=>?_)<;>have h:=hb<;>(try simp only [decide_eq_true_eq,decide_eq_false_iff_not,Int.not_lt,Int.not_le] at h)<;>(simp (disch:=first | exact d_SN | fail) only [hb,c75,TL,wideT_spec,EVS,Nat.reduceAdd,Nat.reduceSub,Int.reduceToNat,Nat.reduceMul,Nat.reduceEqDiff,Nat.reduceLeDiff,Int.reduceEq,Int.reduceLT,Int.reduceLE,↓reduceIte])<;>(try clear hb))
  all_goals (simp only [widthsS,Int.reduceEq,↓reduceIte];unfold subW;(try unfold wideS);first | exact decide_eq_decide.2 (by omega) | exact (decide_eq_false (by omega)).symm)
 ·simp (disch:=first | exact d_SN | fail) only [c75,TL,wideT_spec,EVS,Nat.reduceAdd,Nat.reduceSub,Int.reduceToNat,Nat.reduceMul,Nat.reduceEqDiff,Nat.reduceLeDiff,Int.reduceEq,Int.reduceLT,Int.reduceLE,↓reduceIte]
  repeat' (refine Ok_if (fun hb=>?_) (fun hb=>?_)<;>have h:=hb<;>(try simp only [decide_eq_true_eq,decide_eq_false_iff_not,Int.not_lt,Int.not_le] at h)<;>(simp (disch:=first | exact d_SN | fail) only [hb,c75,TL,wideT_spec,EVS,Nat.reduceAdd,Nat.reduceSub,Int.reduceToNat,Nat.reduceMul,Nat.reduceEqDiff,Nat.reduceLeDiff,Int.reduceEq,Int.reduceLT,Int.reduceLE,↓reduceIte])<;>(try clear hb))
  all_goals (simp only [widthsS,Int.reduceEq,↓reduceIte];unfold subW;(try unfold wideS);first | exact decide_eq_decide.2 (by omega) | exact (decide_eq_false (by omega)).symm)
 ·simp (disch:=first | exact d_SN | fail) only [c75,TL,EVS,Nat.reduceAdd,Nat.reduceSub,Int.reduceToNat,Nat.reduceMul,Nat.reduceEqDiff,Nat.reduceLeDiff,Int.reduceEq,Int.reduceLT,Int.reduceLE,↓reduceIte]
  simp [widthsS,subW]
 ·simp (disch:=first | exact d_SN | fail) only [c75,TL,loadable_spec,EVS,Nat.reduceAdd,Nat.reduceSub,Int.reduceToNat,Nat.reduceMul,Nat.reduceEqDiff,Nat.reduceLeDiff,Int.reduceEq,Int.reduceLT,Int.reduceLE,↓reduceIte]
  simp [widthsS,subW]
def nodeS (t:Te):Prop:=wideS t.w∧(if 3 ≤ t.k∧t.k ≤ 24 then t.b=0∧t.s=[]∧(t.lo=0 ∨ howS t.k=5)∧t.l.length=partsS t.k∧widthsS t (howS t.k)
 else t.l.length=0∧t.lo=0∧((t.k=1∧t.s=[]∧okS t.w t.b) ∨ (t.k=2∧t.b=0∧nameS (strip t.s))))
theorem parts_pos (k:Int):0 < partsS k ↔ 3 ≤ k∧k ≤ 24:=by
 unfold partsS;(repeat' split)<;>omega
open Classical in
theorem node_spec (t:Te) (h0:0 ≤ t.k) (hl:t.l.length ≤ 1000000):∀ h nx,lim T 43 [.agg [.int .u8 (t).k,.int .i64 (t).w,.int .u64 (t).b,.str (t).s,.int .i64 (t).lo,.lst (t).e ((t).l.map tV)]] h nx=some (.bool (decide (nodeS t)),h,nx):=by
 have hsh:=shaped_spec t.k h0
 have hpp:=parts_pos t.k
 have hwd:wideS t.w ↔ 1 ≤ t.w∧t.w ≤ 64:=Iff.rfl
 by_cases hw:1 ≤ t.w∧t.w ≤ 64
 ·by_cases hk:3 ≤ t.k∧t.k ≤ 24
  ·rw [if_pos hk.2,decide_eq_true (hpp.2 hk)] at hsh
   refine lim_iso tg43 rfl rfl (by simp [pures,pure_,pu_Ts]) ?_
   by_cases hp:(t.l.length:Int)=partsS t.k
   ·have hwd:=widths_spec t t.k hk hp hw
    simp (disch:=first | exact d_SN | fail) only [c43,TL,wideT_spec,hw,hsh,hwd,EVS,Nat.reduceAdd,Nat.reduceSub,Int.reduceToNat,Nat.reduceMul,Nat.reduceEqDiff,Nat.reduceLeDiff,Int.reduceEq,Int.reduceLT,Int.reduceLE,↓reduceIte]
    repeat' (refine Ok_if (fun hb=>?_) (fun hb=>?_)<;>have h:=hb<;>(try simp only [decide_eq_true_eq,decide_eq_false_iff_not,Int.not_lt,Int.not_le] at h)<;>(simp (disch:=first | exact d_SN | fail) only [hb,c43,TL,hwd,EVS,Nat.reduceAdd,Nat.reduceSub,Int.reduceToNat,Nat.reduceMul,Nat.reduceEqDiff,Nat.reduceLeDiff,Int.reduceEq,Int.reduceLT,Int.reduceLE,↓reduceIte])<;>(try clear hb))
    all_goals (unfold nodeS;rw [if_pos hk])
    all_goals first | (simp_all;done) | (simp_all;omega)
   ·simp (disch:=first | exact d_SN | fail) only [c43,TL,wideT_spec,hw,hsh,EVS,Nat.reduceAdd,Nat.reduceSub,Int.reduceToNat,Nat.reduceMul,Nat.reduceEqDiff,Nat.reduceLeDiff,Int.reduceEq,Int.reduceLT,Int.reduceLE,↓reduceIte]
    repeat' (refine Ok_if (fun hb=>?_) (fun hb=>?_)<;>have h:=hb<;>(try simp only [decide_eq_true_eq,decide_eq_false_iff_not,Int.not_lt,Int.not_le] at h)<;>(simp (disch:=first | exact d_SN | fail) only [hb,c43,TL,hp,EVS,Nat.reduceAdd,Nat.reduceSub,Int.reduceToNat,Nat.reduceMul,Nat.reduceEqDiff,Nat.reduceLeDiff,Int.reduceEq,Int.reduceLT,Int.reduceLE,↓reduceIte])<;>(try clear hb))
    all_goals (unfold nodeS;rw [if_pos hk])
    all_goals first | (simp_all;done) | (simp_all;omega)
  ·have hpn:¬ 0 < partsS t.k:=fun hh=>hk (hpp.1 hh)
   rw [decide_eq_false hpn] at hsh
   refine lim_iso tg43 rfl rfl (by simp [pures,pure_,pu_Ts]) ?_
   have hif:∃ cs:FV,(if t.k ≤ 24 then FV.agg [.str (wordS t.k.toNat),.int .i64 (partsS t.k),.int .i64 (howS t.k)] else FV.agg [.str [],.int .i64 0,.int .i64 0])=cs∧∃ a b c,cs=.agg [.str a,.int .i64 b,.int .i64 c]:=by
    split<;>exact ⟨_,rfl,_,_,_,rfl⟩
   obtain ⟨cs,hcs,a,b,c,rfl⟩:=hif
   rw [hcs] at hsh
   simp (disch:=first | exact d_SN | fail) only [c43,TL,wideT_spec,hw,hsh,EVS,Nat.reduceAdd,Nat.reduceSub,Int.reduceToNat,Nat.reduceMul,Nat.reduceEqDiff,Nat.reduceLeDiff,Int.reduceEq,Int.reduceLT,Int.reduceLE,↓reduceIte]
   repeat' (refine Ok_if (fun hb=>?_) (fun hb=>?_)<;>have h:=hb<;>(try simp only [decide_eq_true_eq,decide_eq_false_iff_not,Int.not_lt,Int.not_le] at h)<;>(simp (disch:=first | exact d_SN | fail) only [hb,c43,TL,okB_spec,varT_spec,EVS,Nat.reduceAdd,Nat.reduceSub,Int.reduceToNat,Nat.reduceMul,Nat.reduceEqDiff,Nat.reduceLeDiff,Int.reduceEq,Int.reduceLT,Int.reduceLE,↓reduceIte])<;>(try clear hb))
   all_goals (unfold nodeS;rw [if_neg hk])
   all_goals first | (simp_all;done) | (simp_all;omega)
 ·refine lim_iso tg43 rfl rfl (by simp [pures,pure_,pu_Ts]) ?_
  simp (disch:=first | exact d_SN | fail) only [c43,TL,wideT_spec,hw,EVS,Nat.reduceAdd,Nat.reduceSub,Int.reduceToNat,Nat.reduceMul,Nat.reduceEqDiff,Nat.reduceLeDiff,Int.reduceEq,Int.reduceLT,Int.reduceLE,↓reduceIte]
  exact (decide_eq_false fun hh=>hw hh.1).symm
theorem d_SC {P:Prop} (h:P:=by first|omega|(simp only[EVL]<;>omega)|(simp only[hget_c,Nat.reduceEqDiff,↓reduceIte];done)|assumption|(simp (disch:=omega) only[hg_ne,hg_eq,hgs_ne, *];done)|(simp only [TL];done)|with_unfolding_all rfl):P:=h
abbrev vaP (b:Nat) (h0:Heap) (en:Env0) (h:Heap):Prop:=hget h (b + 8)=some (.lp 0 0)∧hget h (b + 1)=some (.row 1 [.nilm])∧hget h (b + 2)=some (.row 1 [.bool false])∧hget h (b + 4)=some (.row 1 [.map (b + 3)])∧hget h (b + 3)=some (.mp (en.map kvV))∧∀ i,i < b→hget h i=hget h0 i
abbrev vaQ (b:Nat) (h0:Heap) (_:Unit) (h:Heap):Prop:=hget h (b + 8)=some (.lp 2 1)∧hget h (b + 1)=some (.row 1 [.nilm])∧hget h (b + 2)=some (.row 1 [.bool false])∧∀ i,i < b→hget h i=hget h0 i
def VarR (b:Nat) (h0:Heap) (r:FV × Heap × Nat):Env0 ⊕ Unit→Prop
 |.inl en=>r.1=.tup [.map (b + 3),.bool true]∧hget r.2.1 (b + 3)=some (.mp (en.map kvV))∧b + 4 ≤ r.2.2∧∀ i,i < b→hget r.2.1 i=hget h0 i
 |.inr _=>r.1=.tup [.nilm,.bool false]∧b ≤ r.2.2∧∀ i,i < b→hget r.2.1 i=hget h0 i
theorem variables_spec (t:Te) (hl:size t ≤ 1000000) (h0:Heap) (b:Nat):∃ r,lim T 44 [.agg [.int .u8 (t).k,.int .i64 (t).w,.int .u64 (t).b,.str (t).s,.int .i64 (t).lo,.lst (t).e ((t).l.map tV)]] h0 b=some r∧VarR b h0 r (varsE t):=by
 rw [lim_shr tg44 rfl rfl]
 suffices hh:@Ok Out (runs T [.code c44.body] (params 0 [.agg [.int .u8 (t).k,.int .i64 (t).w,.int .u64 (t).b,.str (t).s,.int .i64 (t).lo,.lst (t).e ((t).l.map tV)]]) h0 b) ⟨fun x=>@Ok FV (finV c44.res x) ⟨fun v=>VarR b h0 (v,x.2.2.1,x.2.2.2) (varsE t)⟩⟩ by
  obtain ⟨x,h1,v,h2,h3⟩:=hh
  exact ⟨(v,x.2.2.1,x.2.2.2),by rw [h1,B_some,h2,B_some],h3⟩
 simp (disch:=first | exact d_SC | fail) only [c44,nodes_spec,TL,Nat.add_assoc,EVS,Nat.reduceAdd,Nat.reduceSub,Int.reduceToNat,Nat.reduceMul,Nat.reduceEqDiff,Nat.reduceLeDiff,Int.reduceEq,Int.reduceLT,Int.reduceLE,↓reduceIte]
 refine Ok_call1 (walk_spec 1004400 (b + 8) (b + 9) [.ptr (b + 1) 1 0 0,.ptr (b + 2) 1 0 0,.ptr (b + 4) 1 0 0] varG (vaP b h0) (vaQ b h0) (fun a h h' hp hk=>⟨(hk _ (by omega)).trans hp.1,(hk _ (by omega)).trans hp.2.1,(hk _ (by omega)).trans hp.2.2.1,(hk _ (by omega)).trans hp.2.2.2.1,(hk _ (by omega)).trans hp.2.2.2.2.1,fun i hi=>(hk _ (by omega)).trans (hp.2.2.2.2.2 i hi)⟩) t hl ?_ [] _ _ (by omega) ⟨?_,?_,?_,?_,?_,?_⟩) fun r hr=>?_
 ·intro x hx en h nx hb hp
  obtain ⟨p1,p2,p3,p4,p5,p6⟩:=hp
  rw [lim_round tg1004400 rfl rfl p1]
  show @Ok _ _ ⟨fun r=>ResR _ _ _ _ _ r _⟩
  simp only [r1004400]
  by_cases hk:x.k=2
  ·cases hlk:lkE en x.s with
   |none =>
    have hg:varG en x=.inl (en ++ [(x.s,x.w)]):=by simp [varG,hk,hlk]
    have hf:=find_E x.s en
    have hu:=upd_N x.s x.w en hlk
    rw [hlk] at hf
    simp only [Option.map_none] at hf
    rw [hg]
    simp (disch:=first | exact d_SC | fail) only [unf a44_1.eq_1,unf b44_0.eq_1,p1,p2,p3,p4,p5,hk,hgs_ne,hgs_eq p1,hf,hu,EVS,Nat.reduceAdd,Nat.reduceSub,Int.reduceToNat,Nat.reduceMul,Nat.reduceEqDiff,Nat.reduceLeDiff,Int.reduceEq,Int.reduceLT,Int.reduceLE,↓reduceIte]
    exact ⟨rfl,⟨by (simp (disch:=omega) only [hg_ne,hg_eq,hgs_ne,hgx_e,Option.map_some, *]),by (simp (disch:=omega) only [hg_ne,hg_eq,hgs_ne,hgx_e,Option.map_some, *]),by (simp (disch:=omega) only [hg_ne,hg_eq,hgs_ne,hgx_e,Option.map_some, *]),by (simp (disch:=omega) only [hg_ne,hg_eq,hgs_ne,hgx_e,Option.map_some, *]),by (simp (disch:=omega) only [hg_ne,hg_eq,hgs_ne,hgx_e,Option.map_some, *]),fun i hi=>by simp (disch:=omega) only [hg_ne,hgs_ne];exact p6 i hi⟩,by dsimp only;omega,fun i hi hl=>by simp (disch:=omega) only [hg_ne,hgs_ne]⟩
   |some w =>
    have hf:=find_E x.s en
    rw [hlk] at hf
    simp only [Option.map_some] at hf
    by_cases hw:w=x.w
    ·have hg:varG en x=.inl en:=by simp [varG,hk,hlk,hw]
     subst hw
     have hu:=upd_S x.s x.w en hlk
     rw [hg]
     simp (disch:=first | exact d_SC | fail) only [unf a44_1.eq_1,unf b44_0.eq_1,p1,p2,p3,p4,p5,hk,hgs_ne,hgs_eq p1,hf,hu,EVS,Nat.reduceAdd,Nat.reduceSub,Int.reduceToNat,Nat.reduceMul,Nat.reduceEqDiff,Nat.reduceLeDiff,Int.reduceEq,Int.reduceLT,Int.reduceLE,↓reduceIte]
     exact ⟨rfl,⟨by (simp (disch:=omega) only [hg_ne,hg_eq,hgs_ne,hgx_e,Option.map_some, *]),by (simp (disch:=omega) only [hg_ne,hg_eq,hgs_ne,hgx_e,Option.map_some, *]),by (simp (disch:=omega) only [hg_ne,hg_eq,hgs_ne,hgx_e,Option.map_some, *]),by (simp (disch:=omega) only [hg_ne,hg_eq,hgs_ne,hgx_e,Option.map_some, *]),by (simp (disch:=omega) only [hg_ne,hg_eq,hgs_ne,hgx_e,Option.map_some, *]),fun i hi=>by simp (disch:=omega) only [hg_ne,hgs_ne];exact p6 i hi⟩,by dsimp only;omega,fun i hi hl=>by simp (disch:=omega) only [hg_ne,hgs_ne]⟩
    ·have hg:varG en x=.inr ():=by simp [varG,hk,hlk,hw]
     rw [hg]
     simp (disch:=first | exact d_SC | fail) only [unf a44_1.eq_1,unf b44_0.eq_1,p1,p2,p3,p4,p5,hk,hgs_ne,hgs_eq p1,hf,hw,EVS,Nat.reduceAdd,Nat.reduceSub,Int.reduceToNat,Nat.reduceMul,Nat.reduceEqDiff,Nat.reduceLeDiff,Int.reduceEq,Int.reduceLT,Int.reduceLE,↓reduceIte]
     exact ⟨rfl,⟨by (simp (disch:=omega) only [hg_ne,hg_eq,hgs_ne,hgx_e,Option.map_some, *]),by (simp (disch:=omega) only [hg_ne,hg_eq,hgs_ne,hgx_e,Option.map_some, *]),by (simp (disch:=omega) only [hg_ne,hg_eq,hgs_ne,hgx_e,Option.map_some, *]),fun i hi=>by simp (disch:=omega) only [hg_ne,hgs_ne];exact p6 i hi⟩,by dsimp only;omega,fun i hi hl=>by simp (disch:=omega) only [hg_ne,hgs_ne]⟩
  ·have hg:varG en x=.inl en:=by simp [varG,hk]
   rw [hg]
   simp (disch:=first | exact d_SC | fail) only [unf a44_1.eq_1,unf b44_0.eq_1,p1,p2,p3,p4,p5,hk,hgs_ne,hgs_eq p1,EVS,Nat.reduceAdd,Nat.reduceSub,Int.reduceToNat,Nat.reduceMul,Nat.reduceEqDiff,Nat.reduceLeDiff,Int.reduceEq,Int.reduceLT,Int.reduceLE,↓reduceIte]
   exact ⟨rfl,⟨by (simp (disch:=omega) only [hg_ne,hg_eq,hgs_ne,hgx_e,Option.map_some, *]),by (simp (disch:=omega) only [hg_ne,hg_eq,hgs_ne,hgx_e,Option.map_some, *]),by (simp (disch:=omega) only [hg_ne,hg_eq,hgs_ne,hgx_e,Option.map_some, *]),by (simp (disch:=omega) only [hg_ne,hg_eq,hgs_ne,hgx_e,Option.map_some, *]),by (simp (disch:=omega) only [hg_ne,hg_eq,hgs_ne,hgx_e,Option.map_some, *]),fun i hi=>by simp (disch:=omega) only [hg_ne,hgs_ne];exact p6 i hi⟩,by dsimp only;omega,fun i hi hl=>by simp (disch:=omega) only [hg_ne,hgs_ne]⟩
 ·(simp (disch:=omega) only [hg_ne,hg_eq,hgs_ne,hgx_e,Option.map_some, *])
 ·(simp (disch:=omega) only [hg_ne,hg_eq,hgs_ne,hgx_e,Option.map_some, *])
 ·(simp (disch:=omega) only [hg_ne,hg_eq,hgs_ne,hgx_e,Option.map_some, *])
 ·(simp (disch:=omega) only [hg_ne,hg_eq,hgs_ne,hgx_e,Option.map_some, *])
 ·simp (disch:=omega) only [hg_ne,hg_eq];rfl
 ·intro i hi;(simp (disch:=omega) only [hg_ne,hg_eq,hgs_ne,hgx_e,Option.map_some, *])
 ·obtain ⟨v,h',nx'⟩:=r
  unfold varsE
  cases hv:foldE varG [] (nodesT t) with
  |inl en =>
   rw [hv] at hr
   obtain ⟨rfl,⟨p1,p2,p3,p4,p5,p6⟩,hf⟩:=hr
   dsimp only at p1 p2 p3 p4 p5 p6
   refine ⟨rfl,?_⟩
   simp (disch:=first | exact d_SC | fail) only [unf k44_2.eq_1,c44,p1,p2,p3,p4,p5,hgs_ne,hgx_e,Option.map_some,EVS,Nat.reduceAdd,Nat.reduceSub,Int.reduceToNat,Nat.reduceMul,Nat.reduceEqDiff,Nat.reduceLeDiff,Int.reduceEq,Int.reduceLT,Int.reduceLE,↓reduceIte]
   exact ⟨rfl,by (simp (disch:=omega) only [hg_ne,hg_eq,hgs_ne,hgx_e,Option.map_some, *]),by dsimp only;have:=hf.1;dsimp only at this;omega,fun i hi=>by simp (disch:=omega) only [hgs_ne];exact p6 i hi⟩
  |inr u =>
   rw [hv] at hr
   obtain ⟨rfl,⟨p1,p2,p3,p6⟩,hf⟩:=hr
   dsimp only at p1 p2 p3 p6
   refine ⟨rfl,?_⟩
   simp (disch:=first | exact d_SC | fail) only [unf k44_2.eq_1,c44,p1,p2,p3,hgs_ne,EVS,Nat.reduceAdd,Nat.reduceSub,Int.reduceToNat,Nat.reduceMul,Nat.reduceEqDiff,Nat.reduceLeDiff,Int.reduceEq,Int.reduceLT,Int.reduceLE,↓reduceIte]
   exact ⟨rfl,by dsimp only;have:=hf.1;dsimp only at this;omega,fun i hi=>by simp (disch:=omega) only [hgs_ne];exact p6 i hi⟩
def nodesOk (t:Te):Prop:=∀ x ∈ nodesT t,nodeS x
open Classical in
noncomputable def checkS (t:Te):Int :=
 if 400 < size t ∨ 60 < depth t then 4 else if nodesOk t then match varsE t with
  |.inl _=>0
  |.inr _=>14
 else 8
def KOk (t:Te):Prop:=∀ x ∈ nodesT t,0 ≤ x.k
open Classical in
noncomputable def chkG (_:Unit) (x:Te):Unit ⊕ Unit:=if nodeS x then .inl () else .inr ()
theorem chkG_all:∀ xs:List Te,(∀ x ∈ xs,nodeS x)→foldE chkG () xs=.inl ():=by
 intro xs
 induction xs with
 |nil=>intro _;rfl
 |cons x xs ih =>
  intro h
  have:chkG () x=.inl ():=if_pos (h x (by simp))
  simp only [foldE,this]
  exact ih fun y hy=>h y (by simp [hy])
theorem chkG_not:∀ xs:List Te,¬ (∀ x ∈ xs,nodeS x)→foldE chkG () xs=.inr ():=by
 intro xs
 induction xs with
 |nil=>intro h;exact absurd (fun x hx=>by cases hx) h
 |cons x xs ih =>
  intro h
  by_cases hx:nodeS x
  ·have:chkG () x=.inl ():=if_pos hx
   simp only [foldE,this]
   refine ih fun hh=>h fun y hy=>?_
   rcases List.mem_cons.1 hy with rfl | hy
   ·exact hx
   ·exact hh y hy
  ·have:chkG () x=.inr ():=if_neg hx
   simp only [foldE,this]
abbrev ckP (t:Te) (_:Unit) (h:Heap):Prop:=hget h 12=some (.lp 0 0)∧hget h 1=some (.row 1 [.int .i64 0])∧hget h 0=some (.row 6 [.agg [.int .u8 (t).k,.int .i64 (t).w,.int .u64 (t).b,.str (t).s,.int .i64 (t).lo,.lst (t).e ((t).l.map tV)]])
abbrev ckQ (_:Unit) (h:Heap):Prop:=hget h 12=some (.lp 2 1)∧hget h 1=some (.row 1 [.int .i64 8])
theorem check_many {t:Te} (h:400 < size t ∨ 60 < depth t):4=checkS t:=(if_pos h).symm
theorem check_bad {t:Te} (h:¬ (400 < size t ∨ 60 < depth t)) (hn:¬ nodesOk t):8=checkS t:=by unfold checkS;rw [if_neg h,if_neg hn]
theorem check_in {t:Te} (h:¬ (400 < size t ∨ 60 < depth t)) (hn:nodesOk t):checkS t=match varsE t with | .inl _=>0 | .inr _=>14:=by unfold checkS;rw [if_neg h,if_pos hn]
theorem check_spec (t:Te) (hl:size t ≤ 1000000) (hk:KOk t) (h:Heap) (nx:Nat):isfR T c20 [.agg [.int .u8 (t).k,.int .i64 (t).w,.int .u64 (t).b,.str (t).s,.int .i64 (t).lo,.lst (t).e ((t).l.map tV)]] h nx=some (.int .i64 (checkS t),h,nx):=by
 refine isfR_of rfl ?_
 have hs:=size_spec t hl
 have hd:=depth_spec t hl
 simp (disch:=first | exact d_SC | fail) only [c20,nodes_spec,TL,hs,hd,EVS,Nat.reduceAdd,Nat.reduceSub,Int.reduceToNat,Nat.reduceMul,Nat.reduceEqDiff,Nat.reduceLeDiff,Int.reduceEq,Int.reduceLT,Int.reduceLE,↓reduceIte]
 repeat' (refine Ok_if (fun hb=>?_) (fun hb=>?_)<;>have h:=hb<;>(try simp only [decide_eq_true_eq,decide_eq_false_iff_not,Int.not_lt,Int.not_le] at h)<;>(simp (disch:=first | exact d_SC | fail) only [hb,c20,nodes_spec,TL,hs,hd,EVS,Nat.reduceAdd,Nat.reduceSub,Int.reduceToNat,Nat.reduceMul,Nat.reduceEqDiff,Nat.reduceLeDiff,Int.reduceEq,Int.reduceLT,Int.reduceLE,↓reduceIte])<;>(try clear hb))
 ·exact check_many (by omega)
 ·exact check_many (by omega)
 ·rename_i hs1 
  have hm:¬ (400 < size t ∨ 60 < depth t):=by omega
  refine Ok_call1 (walk_spec 1002000 12 13 [.ptr 1 1 0 0] chkG (ckP t) ckQ (fun a h h' hp hk=>⟨(hk _ (by omega)).trans hp.1,(hk _ (by omega)).trans hp.2.1,(hk _ (by omega)).trans hp.2.2⟩) t hl ?_ () _ _ (by omega) ⟨rfl,rfl,rfl⟩) fun r hr=>?_
  ·intro x hx u h nx hb hp
   obtain ⟨p1,p2,p3⟩:=hp
   have hn:=node_spec x (hk x hx) (Nat.le_trans (nodes_len hx) hl)
   rw [lim_round tg1002000 rfl rfl p1]
   show @Ok _ _ ⟨fun r=>ResR _ _ _ _ _ r _⟩
   simp only [r1002000]
   by_cases hx:nodeS x
   ·have hg:chkG u x=.inl ():=if_pos hx
    rw [hg]
    simp (disch:=first | exact d_SC | fail) only [unf a20_1.eq_1,unf b20_0.eq_1,p1,p2,p3,hgs_ne,hgs_eq p1,hn,hx,EVS,Nat.reduceAdd,Nat.reduceSub,Int.reduceToNat,Nat.reduceMul,Nat.reduceEqDiff,Nat.reduceLeDiff,Int.reduceEq,Int.reduceLT,Int.reduceLE,↓reduceIte]
    exact ⟨rfl,⟨by (simp (disch:=omega) only [hg_ne,hg_eq,hgs_ne,hgx_e,Option.map_some, *]),by (simp (disch:=omega) only [hg_ne,hg_eq,hgs_ne,hgx_e,Option.map_some, *]),by (simp (disch:=omega) only [hg_ne,hg_eq,hgs_ne,hgx_e,Option.map_some, *])⟩,⟨by dsimp only;omega,fun i hi hl=>by simp (disch:=omega) only [hg_ne,hgs_ne]⟩⟩
   ·have hg:chkG u x=.inr ():=if_neg hx
    rw [hg]
    simp (disch:=first | exact d_SC | fail) only [unf a20_1.eq_1,unf b20_0.eq_1,p1,p2,p3,hgs_ne,hgs_eq p1,hn,hx,EVS,Nat.reduceAdd,Nat.reduceSub,Int.reduceToNat,Nat.reduceMul,Nat.reduceEqDiff,Nat.reduceLeDiff,Int.reduceEq,Int.reduceLT,Int.reduceLE,↓reduceIte]
    exact ⟨rfl,⟨by (simp (disch:=omega) only [hg_ne,hg_eq,hgs_ne,hgx_e,Option.map_some, *]),by (simp (disch:=omega) only [hg_ne,hg_eq,hgs_ne,hgx_e,Option.map_some, *])⟩,⟨by dsimp only;omega,fun i hi hl=>by simp (disch:=omega) only [hg_ne,hgs_ne]⟩⟩
  ·obtain ⟨v,h',nx'⟩:=r
   by_cases hn:nodesOk t
   ·rw [chkG_all _ hn] at hr
    obtain ⟨rfl,⟨p1,p2,p3⟩,hf⟩:=hr
    dsimp only at p1 p2 p3
    have hf:=hf.1
    dsimp only at hf
    refine ⟨rfl,?_⟩
    rw [check_in hm hn]
    simp (disch:=first | exact d_SC | fail) only [unf k20_2.eq_1,c20,p1,p2,p3,hgs_ne,EVS,Nat.reduceAdd,Nat.reduceSub,Int.reduceToNat,Nat.reduceMul,Nat.reduceEqDiff,Nat.reduceLeDiff,Int.reduceEq,Int.reduceLT,Int.reduceLE,↓reduceIte]
    refine Ok_call (variables_spec t hl _ _) fun r hr=>?_
    obtain ⟨v,h2,nx2⟩:=r
    cases hv:varsE t with
    |inl en =>
     rw [hv] at hr
     obtain ⟨rfl,q1,q2,q3⟩:=hr
     have q4:=(q3 1 (by omega)).trans (by (simp (disch:=omega) only [hg_ne,hg_eq,hgs_ne,hgx_e,Option.map_some, *]):_=some (Obj.row 1 [.int .i64 0]))
     dsimp only at q4
     refine ⟨rfl,?_⟩
     simp (disch:=first | exact d_SC | fail) only [c20,q4,hgs_ne,hgx_e,Option.map_some,EVS,Nat.reduceAdd,Nat.reduceSub,Int.reduceToNat,Nat.reduceMul,Nat.reduceEqDiff,Nat.reduceLeDiff,Int.reduceEq,Int.reduceLT,Int.reduceLE,↓reduceIte]
    |inr u =>
     rw [hv] at hr
     obtain ⟨rfl,q2,q3⟩:=hr
     have q4:=(q3 1 (by omega)).trans (by (simp (disch:=omega) only [hg_ne,hg_eq,hgs_ne,hgx_e,Option.map_some, *]):_=some (Obj.row 1 [.int .i64 0]))
     dsimp only at q4
     refine ⟨rfl,?_⟩
     simp (disch:=first | exact d_SC | fail) only [c20,q4,hgs_ne,hgx_e,Option.map_some,EVS,Nat.reduceAdd,Nat.reduceSub,Int.reduceToNat,Nat.reduceMul,Nat.reduceEqDiff,Nat.reduceLeDiff,Int.reduceEq,Int.reduceLT,Int.reduceLE,↓reduceIte]
   ·rw [chkG_not _ hn] at hr
    obtain ⟨rfl,⟨p1,p2⟩,hf⟩:=hr
    dsimp only at p1 p2
    refine ⟨rfl,?_⟩
    simp (disch:=first | exact d_SC | fail) only [c20,p1,p2,hgs_ne,EVS,Nat.reduceAdd,Nat.reduceSub,Int.reduceToNat,Nat.reduceMul,Nat.reduceEqDiff,Nat.reduceLeDiff,Int.reduceEq,Int.reduceLT,Int.reduceLE,↓reduceIte]
    exact check_bad hm hn
theorem check_lim (a:FV) (h:Heap) (nx:Nat):lim T 20 [a] h nx=@FI.B (List FV) (FV × Heap × Nat) (frzs h deep [a]) ⟨fun q=>isfR T c20 q h nx⟩:=lim_isf tg20 rfl rfl
theorem check_pure (t:Te) (hl:size t ≤ 1000000) (hk:KOk t):∀ h nx,lim T 20 [.agg [.int .u8 (t).k,.int .i64 (t).w,.int .u64 (t).b,.str (t).s,.int .i64 (t).lo,.lst (t).e ((t).l.map tV)]] h nx=some (.int .i64 (checkS t),h,nx):=by
 intro h nx
 rw [check_lim,frzs_pure (by simp [pures,pure_,pu_Ts]) (show (1:Nat) ≤ deep by decide),B_some]
 exact check_spec t hl hk h nx
theorem d_G1 {P:Prop} (h:P:=by first|omega|(simp only[EVL]<;>omega)|(simp only[hget_c,Nat.reduceEqDiff,↓reduceIte];done)|assumption|(simp (disch:=omega) only[hg_ne,hg_eq,hgs_ne, *];done)|(simp only [TL];done)|with_unfolding_all rfl):P:=h
theorem count_loop (t:Te) (limit dp:Nat) (hl:limit ≤ 500) (hdp:dp ≤ 80) (hd1:1 ≤ dp) (hlen:t.l.length ≤ 9223372036854775807)
  (ih:∀ x ∈ t.l,∀ (limit dp:Nat),limit ≤ 500→dp ≤ 80→∃ (n:Nat) (is:Bool),1 ≤ n∧n ≤ limit + 1∧(is=true→n ≤ limit→n=size x∧depth x ≤ dp)∧∀ h nx,lim T 28 [.agg [.int .u8 (x).k,.int .i64 (x).w,.int .u64 (x).b,.str (x).s,.int .i64 (x).lo,.lst (x).e ((x).l.map tV)],.int .i64 limit,.int .i64 dp] h nx=some (.tup [.int .i64 n,.bool is],h,nx)) :
  ∀ (k i n:Nat),i + k=t.l.length→1 ≤ n→n ≤ limit + 1 →
  @Ok Out (runs T [.code b28_0,.inL (some 7) b28_0,.inB 0,.code k28_1] [(1,.int .i64 limit),(2,.int .i64 dp),(3,.ptr 0 1 0 0),(8,.int .i64 n),(9,.int .i64 i)] [(0,.row 6 [.agg [.int .u8 (t).k,.int .i64 (t).w,.int .u64 (t).b,.str (t).s,.int .i64 (t).lo,.lst (t).e ((t).l.map tV)]])] 7)
   ⟨fun x=>@Ok FV (resV c28.res x) ⟨fun v=>∃ (m:Nat) (is:Bool),v=.tup [.int .i64 m,.bool is]∧1 ≤ m∧m ≤ limit + 1∧(is=true→m ≤ limit→m=n + sizes (t.l.drop i)∧depths (t.l.drop i) + 1 ≤ dp)⟩⟩:=by
 intro k
 induction k with
 |zero =>
  intro i n hi h1 h2
  have:¬ (i:Int) < t.l.length:=by omega
  simp (disch:=first | exact d_G1 | fail) only [unf b28_0.eq_1,unf k28_1.eq_1,c28,this,TL,EVS,Nat.reduceAdd,Nat.reduceSub,Int.reduceToNat,Nat.reduceMul,Nat.reduceEqDiff,Nat.reduceLeDiff,Int.reduceEq,Int.reduceLT,Int.reduceLE,↓reduceIte]
  exact ⟨n,true,rfl,h1,h2,fun _ _=>by rw [List.drop_eq_nil_of_le (by omega)];exact ⟨rfl,by show 0 + 1 ≤ dp;omega⟩⟩
 |succ k ihk =>
  intro i n hi h1 h2
  have:(i:Int) < t.l.length:=by omega
  by_cases hn:n ≤ limit
  ·have hnl:(n:Int) ≤ limit:=by omega
   obtain ⟨m,is,m1,m2,m3,hx⟩:=ih _ (getD_mem (d:=default) (show i < t.l.length by omega)) (limit - n) (dp - 1) (by omega) (by omega)
   rw [show ((limit - n:Nat):Int)=(limit:Int) - n by omega,show ((dp - 1:Nat):Int)=(dp:Int) - 1 by omega] at hx
   cases is with
   |true =>
    simp (disch:=first | exact d_G1 | fail) only [unf b28_0.eq_1,c28,this,hnl,TL,hx,EVS,Nat.reduceAdd,Nat.reduceSub,Int.reduceToNat,Nat.reduceMul,Nat.reduceEqDiff,Nat.reduceLeDiff,Int.reduceEq,Int.reduceLT,Int.reduceLE,↓reduceIte]
    refine Ok_inL (by decide) (by simp [lowTm,low,lows,TL]) (by simp [cutH,lowHeap,lowObj,lows,low,TL]) (Ok_post (ihk (i + 1) (n + m) (by omega) (by omega) (by omega)) fun x v hv=>?_)
    obtain ⟨m',is',e,q1,q2,q3⟩:=hv
    refine ⟨m',is',e,q1,q2,fun e1 e2=>?_⟩
    obtain ⟨r1,r2⟩:=q3 e1 e2
    have hm:=m3 rfl (by omega)
    rw [sizes_drop (by omega),depths_drop (by omega)]
    omega
   |false =>
    simp (disch:=first | exact d_G1 | fail) only [unf b28_0.eq_1,c28,this,hnl,TL,hx,EVS,Nat.reduceAdd,Nat.reduceSub,Int.reduceToNat,Nat.reduceMul,Nat.reduceEqDiff,Nat.reduceLeDiff,Int.reduceEq,Int.reduceLT,Int.reduceLE,↓reduceIte]
    exact ⟨n,false,rfl,h1,h2,fun e=>by cases e⟩
  ·have hnl:¬ (n:Int) ≤ limit:=by omega
   simp (disch:=first | exact d_G1 | fail) only [unf b28_0.eq_1,unf k28_1.eq_1,c28,this,hnl,TL,EVS,Nat.reduceAdd,Nat.reduceSub,Int.reduceToNat,Nat.reduceMul,Nat.reduceEqDiff,Nat.reduceLeDiff,Int.reduceEq,Int.reduceLT,Int.reduceLE,↓reduceIte]
   exact ⟨n,true,rfl,h1,h2,fun _ e=>absurd e hn⟩
theorem count_spec (t:Te) (ht:TOk t):∀ (limit dp:Nat),limit ≤ 500→dp ≤ 80→∃ (n:Nat) (is:Bool),1 ≤ n∧n ≤ limit + 1∧(is=true→n ≤ limit→n=size t∧depth t ≤ dp)∧∀ h nx,lim T 28 [.agg [.int .u8 (t).k,.int .i64 (t).w,.int .u64 (t).b,.str (t).s,.int .i64 (t).lo,.lst (t).e ((t).l.map tV)],.int .i64 limit,.int .i64 dp] h nx=some (.tup [.int .i64 n,.bool is],h,nx):=by
 induction t using Tm'.ind with
 |h t ih =>
 intro limit dp hl hdp
 have hlen:t.l.length ≤ 9223372036854775807:=ht.self.2.2.2.2.2
 obtain ⟨v,⟨n,is,rfl,q1,q2,q3⟩,hh⟩:=lim_isoP (p:=fun v=>∃ (m:Nat) (is:Bool),v=.tup [.int .i64 m,.bool is]∧1 ≤ m∧m ≤ limit + 1∧(is=true→m ≤ limit→m=size t∧depth t ≤ dp)) tg28 rfl (args:=[.agg [.int .u8 (t).k,.int .i64 (t).w,.int .u64 (t).b,.str (t).s,.int .i64 (t).lo,.lst (t).e ((t).l.map tV)],.int .i64 limit,.int .i64 dp]) rfl (by simp [pures,pure_,pu_Ts]) (by
  by_cases hd:dp=0
  ·have hd':(dp:Int)=0:=by omega
   simp (disch:=first | exact d_G1 | fail) only [c28,TL,hd',EVS,Nat.reduceAdd,Nat.reduceSub,Int.reduceToNat,Nat.reduceMul,Nat.reduceEqDiff,Nat.reduceLeDiff,Int.reduceEq,Int.reduceLT,Int.reduceLE,↓reduceIte]
   exact ⟨1,false,rfl,by omega,by omega,fun e=>by cases e⟩
  ·have hd':¬ (dp:Int)=0:=by omega
   simp (disch:=first | exact d_G1 | fail) only [c28,TL,hd',EVS,Nat.reduceAdd,Nat.reduceSub,Int.reduceToNat,Nat.reduceMul,Nat.reduceEqDiff,Nat.reduceLeDiff,Int.reduceEq,Int.reduceLT,Int.reduceLE,↓reduceIte]
   refine Ok_post (count_loop t limit dp hl hdp (by omega) hlen (fun x hx=>ih x hx (ht.sub hx)) t.l.length 0 1 (by omega) (by omega) (by omega)) fun x v hv=>?_
   rw [List.drop_zero] at hv
   rw [size_eq,depth_eq];exact hv)
 exact ⟨n,is,q1,q2,q3,hh⟩
theorem long_loop (t:Te) (hlen:t.l.length ≤ 9223372036854775807)
  (ih:∀ x ∈ t.l,∃ b:Bool,(b=false→∀ y ∈ nodesT x,y.s.length ≤ 200)∧∀ h nx,lim T 29 [.agg [.int .u8 (x).k,.int .i64 (x).w,.int .u64 (x).b,.str (x).s,.int .i64 (x).lo,.lst (x).e ((x).l.map tV)]] h nx=some (.bool b,h,nx)) :
  ∀ (k i:Nat),i + k=t.l.length→(∀ j,j < i→∀ y ∈ nodesT (t.l.getD j default),y.s.length ≤ 200) →
  @Ok Out (runs T [.code b29_0,.inL (some 3) b29_0,.inB 0,.code k29_1] [(1,.ptr 0 1 0 0),(3,.int .i64 i)] [(0,.row 6 [.agg [.int .u8 (t).k,.int .i64 (t).w,.int .u64 (t).b,.str (t).s,.int .i64 (t).lo,.lst (t).e ((t).l.map tV)]])] 3)
   ⟨fun x=>@Ok FV (resV c29.res x) ⟨fun v=>∃ b:Bool,v=.bool b∧(b=false→∀ y ∈ nodesT t,y.s.length ≤ 200)⟩⟩:=by
 intro k
 induction k with
 |zero =>
  intro i hi hok
  have:¬ (i:Int) < t.l.length:=by omega
  simp (disch:=first | exact d_G1 | fail) only [unf b29_0.eq_1,unf k29_1.eq_1,c29,this,TL,EVS,Nat.reduceAdd,Nat.reduceSub,Int.reduceToNat,Nat.reduceMul,Nat.reduceEqDiff,Nat.reduceLeDiff,Int.reduceEq,Int.reduceLT,Int.reduceLE,↓reduceIte]
  refine ⟨_,rfl,fun e=>?_⟩
  have e:=of_decide_eq_false e
  refine all_nodes.2 ⟨by omega,fun x hx=>?_⟩
  obtain ⟨j,hj,rfl⟩:=List.mem_iff_getElem.1 hx
  have:=hok j (by omega)
  simpa [List.getD,hj] using this
 |succ k ihk =>
  intro i hi hok
  have:(i:Int) < t.l.length:=by omega
  obtain ⟨b,hb,hx⟩:=ih _ (getD_mem (d:=default) (show i < t.l.length by omega))
  cases b with
  |true =>
   simp (disch:=first | exact d_G1 | fail) only [unf b29_0.eq_1,c29,this,TL,hx,EVS,Nat.reduceAdd,Nat.reduceSub,Int.reduceToNat,Nat.reduceMul,Nat.reduceEqDiff,Nat.reduceLeDiff,Int.reduceEq,Int.reduceLT,Int.reduceLE,↓reduceIte]
   exact ⟨true,rfl,fun e=>by cases e⟩
  |false =>
   simp (disch:=first | exact d_G1 | fail) only [unf b29_0.eq_1,c29,this,TL,hx,EVS,Nat.reduceAdd,Nat.reduceSub,Int.reduceToNat,Nat.reduceMul,Nat.reduceEqDiff,Nat.reduceLeDiff,Int.reduceEq,Int.reduceLT,Int.reduceLE,↓reduceIte]
   exact Ok_inL (by decide) (by simp [lowTm,low,lows,TL]) (by simp [cutH,lowHeap,lowObj,lows,low,TL]) (ihk (i + 1) (by omega) (fun j hj=>by
    by_cases e:j=i
    ·subst e;exact hb rfl
    ·exact hok j (by omega)))
theorem long_spec (t:Te) (ht:TOk t):∃ b:Bool,(b=false→∀ y ∈ nodesT t,y.s.length ≤ 200)∧∀ h nx,lim T 29 [.agg [.int .u8 (t).k,.int .i64 (t).w,.int .u64 (t).b,.str (t).s,.int .i64 (t).lo,.lst (t).e ((t).l.map tV)]] h nx=some (.bool b,h,nx):=by
 induction t using Tm'.ind with
 |h t ih =>
 have hlen:t.l.length ≤ 9223372036854775807:=ht.self.2.2.2.2.2
 have hsl:t.s.length ≤ 9223372036854775807:=ht.self.2.2.2.1
 obtain ⟨v,⟨b,rfl,hb⟩,hh⟩:=lim_isoP (p:=fun v=>∃ b:Bool,v=.bool b∧(b=false→∀ y ∈ nodesT t,y.s.length ≤ 200)) tg29 rfl (args:=[.agg [.int .u8 (t).k,.int .i64 (t).w,.int .u64 (t).b,.str (t).s,.int .i64 (t).lo,.lst (t).e ((t).l.map tV)]]) rfl (by simp [pures,pure_,pu_Ts]) (by
  simp (disch:=first | exact d_G1 | fail) only [c29,TL,EVS,Nat.reduceAdd,Nat.reduceSub,Int.reduceToNat,Nat.reduceMul,Nat.reduceEqDiff,Nat.reduceLeDiff,Int.reduceEq,Int.reduceLT,Int.reduceLE,↓reduceIte]
  exact long_loop t hlen (fun x hx=>ih x hx (ht.sub hx)) t.l.length 0 (by omega) (fun j hj=>by omega))
 exact ⟨b,hb,hh⟩
def SmallT (t:Te):Prop:=size t ≤ 500∧depth t ≤ 80∧∀ y ∈ nodesT t,y.s.length ≤ 200
theorem great_spec (t:Te) (ht:TOk t):∃ b:Bool,(b=false→SmallT t)∧∀ h nx,lim T 10 [.agg [.int .u8 (t).k,.int .i64 (t).w,.int .u64 (t).b,.str (t).s,.int .i64 (t).lo,.lst (t).e ((t).l.map tV)]] h nx=some (.bool b,h,nx):=by
 obtain ⟨n,is,n1,n2,n3,hc⟩:=count_spec t ht 500 80 (by omega) (by omega)
 obtain ⟨b,hb,hlg⟩:=long_spec t ht
 simp only [Int.cast_ofNat_Int] at hc
 obtain ⟨v,⟨b,rfl,hb⟩,hh⟩:=lim_isoP (p:=fun v=>∃ b:Bool,v=.bool b∧(b=false→SmallT t)) tg10 rfl (args:=[.agg [.int .u8 (t).k,.int .i64 (t).w,.int .u64 (t).b,.str (t).s,.int .i64 (t).lo,.lst (t).e ((t).l.map tV)]]) rfl (by simp [pures,pure_,pu_Ts]) (by
  cases is with
  |false =>
   simp (disch:=first | exact d_G1 | fail) only [c10,TL,hc,EVS,Nat.reduceAdd,Nat.reduceSub,Int.reduceToNat,Nat.reduceMul,Nat.reduceEqDiff,Nat.reduceLeDiff,Int.reduceEq,Int.reduceLT,Int.reduceLE,↓reduceIte]
   exact ⟨true,rfl,fun e=>by cases e⟩
  |true =>
   by_cases hn:(500:Int) < n
   ·simp (disch:=first | exact d_G1 | fail) only [c10,TL,hc,hn,EVS,Nat.reduceAdd,Nat.reduceSub,Int.reduceToNat,Nat.reduceMul,Nat.reduceEqDiff,Nat.reduceLeDiff,Int.reduceEq,Int.reduceLT,Int.reduceLE,↓reduceIte]
    exact ⟨true,rfl,fun e=>by cases e⟩
   ·have hq:=n3 rfl (by omega)
    simp (disch:=first | exact d_G1 | fail) only [c10,TL,hc,hn,hlg,EVS,Nat.reduceAdd,Nat.reduceSub,Int.reduceToNat,Nat.reduceMul,Nat.reduceEqDiff,Nat.reduceLeDiff,Int.reduceEq,Int.reduceLT,Int.reduceLE,↓reduceIte]
    exact ⟨b,rfl,fun e=>⟨by omega,hq.2,hb e⟩⟩)
 exact ⟨b,hb,hh⟩
theorem d_G2 {P:Prop} (h:P:=by first|omega|(simp only[EVL]<;>omega)|(simp only[hget_c,Nat.reduceEqDiff,↓reduceIte];done)|assumption|(simp (disch:=omega) only[hg_ne,hg_eq,hgs_ne, *];done)|(simp only [TL,EnL];done)|with_unfolding_all rfl):P:=h
def goodB (env:Env) (i:Nat):Prop:=nameS (strip (env.getD i ([],0,0)).1)∧okS (env.getD i ([],0,0)).2.1 (env.getD i ([],0,0)).2.2∧(i ≠ 0→Op.bytesLess (env.getD (i - 1) ([],0,0)).1 (env.getD i ([],0,0)).1=true)
open Classical in
noncomputable def chkB (env:Env):Int:=if env.length ≤ 1000∧∀ i,i < env.length→goodB env i then 0 else 8
theorem chkB_ok {env:Env} (h1:env.length ≤ 1000) (h2:∀ i,i < env.length→goodB env i):0=chkB env:=(if_pos ⟨h1,h2⟩).symm
theorem chkB_no {env:Env} (h:¬ (env.length ≤ 1000∧∀ i,i < env.length→goodB env i)):8=chkB env:=(if_neg h).symm
theorem toNat_subE (i:Nat):((i:Int) - 1).toNat=i - 1:=by omega
theorem upToE {p:Nat→Prop} {i:Nat} (h:∀ j,j < i→p j) (hi:p i):∀ j,j < i + 1→p j:=fun j hj=>by
 by_cases e:j=i
 ·subst e;exact hi
 ·exact h j (by omega)
theorem checkB_loop (e:Bool) (env:Env) (hl:env.length ≤ 1000):∀ (k i:Nat),i + k=env.length→(∀ j,j < i→goodB env j) →
  @Ok Out (runs T [.code b36_0,.inL (some 7) b36_0,.inB 0,.code k36_1] [(0,.lst e (env.map bdV)),(8,.lst e (env.map bdV)),(9,.int .i64 env.length),(10,.int .i64 i)] [] 7) ⟨fun x=>resV c36.res x=some (.int .i64 (chkB env))⟩:=by
 intro k
 induction k with
 |zero =>
  intro i hi hok
  have:¬ (i:Int) < env.length:=by omega
  simp (disch:=first | exact d_G2 | fail) only [unf b36_0.eq_1,unf k36_1.eq_1,c36,this,EVS,Nat.reduceAdd,Nat.reduceSub,Int.reduceToNat,Nat.reduceMul,Nat.reduceEqDiff,Nat.reduceLeDiff,Int.reduceEq,Int.reduceLT,Int.reduceLE,↓reduceIte]
  exact chkB_ok hl fun j hj=>hok j (by omega)
 |succ k ih =>
  intro i hi hok
  have:(i:Int) < env.length:=by omega
  simp (disch:=first | exact d_G2 | fail) only [unf b36_0.eq_1,c36,this,EnL,varT_spec,EVS,Nat.reduceAdd,Nat.reduceSub,Int.reduceToNat,Nat.reduceMul,Nat.reduceEqDiff,Nat.reduceLeDiff,Int.reduceEq,Int.reduceLT,Int.reduceLE,↓reduceIte]
  repeat' (refine Ok_if (fun hb=>?_) (fun hb=>?_)<;>have h:=hb<;>(try simp only [decide_eq_true_eq,decide_eq_false_iff_not,Int.not_lt,Int.not_le] at h)<;>(simp (disch:=first | exact d_G2 | fail) only [hb,c36,EnL,gd_e,toNat_subE,okB_spec,EVS,Nat.reduceAdd,Nat.reduceSub,Int.reduceToNat,Nat.reduceMul,Nat.reduceEqDiff,Nat.reduceLeDiff,Int.reduceEq,Int.reduceLT,Int.reduceLE,↓reduceIte])<;>(try clear hb))
  all_goals first
   |exact Ok_inL (by decide) (by simp [lowTm,low,EnL]) (by simp [cutH,lowHeap]) (ih (i + 1) (by omega) (upToE hok ⟨by assumption,by assumption,fun _=>by first | omega | assumption⟩))
   |exact chkB_no fun hg=>by
     obtain ⟨q1,q2,q3⟩:=hg.2 i (by omega)
     first | exact absurd q1 (by assumption) | exact absurd q2 (by assumption) | (have:=q3 (by omega);simp_all;done)
theorem checkB_spec (e:Bool) (env:Env) (hl:env.length ≤ 1100):∀ h nx,lim T 36 [.lst e (env.map bdV)] h nx=some (.int .i64 (chkB env),h,nx):=by
 refine lim_iso tg36 rfl rfl (by simp [pures,pure_,pu_e]) ?_
 simp (disch:=first | exact d_G2 | fail) only [c36,EnL,EVS,Nat.reduceAdd,Nat.reduceSub,Int.reduceToNat,Nat.reduceMul,Nat.reduceEqDiff,Nat.reduceLeDiff,Int.reduceEq,Int.reduceLT,Int.reduceLE,↓reduceIte]
 repeat' (refine Ok_if (fun hb=>?_) (fun hb=>?_)<;>have h:=hb<;>(try simp only [decide_eq_true_eq,decide_eq_false_iff_not,Int.not_lt,Int.not_le] at h)<;>(simp (disch:=first | exact d_G2 | fail) only [hb,c36,EnL,EVS,Nat.reduceAdd,Nat.reduceSub,Int.reduceToNat,Nat.reduceMul,Nat.reduceEqDiff,Nat.reduceLeDiff,Int.reduceEq,Int.reduceLT,Int.reduceLE,↓reduceIte])<;>(try clear hb))
 ·exact chkB_no fun hg=>by have:=hg.1;omega
 ·exact checkB_loop e env (by omega) env.length 0 (by omega) (by omega)
theorem cmpE_spec (n:List UInt8) (w x:Int) (s:List UInt8):∀ h nx,lim T 39 [.agg [.str n,.int .i64 w,.int .u64 x],.str s] h nx=some (.int .i64 (Go.Lib.compareBytes n s),h,nx):=by
 have a:∀ h nx,lim T 64 [.str n,.str s] h nx=some (.int .i64 (Go.Lib.compareBytes n s),h,nx):=by
  refine lim_iso tg64 rfl rfl rfl ?_
  simp (disch:=first | exact d_G2 | fail) only [c64,EVS,Nat.reduceAdd,Nat.reduceSub,Int.reduceToNat,Nat.reduceMul,Nat.reduceEqDiff,Nat.reduceLeDiff,Int.reduceEq,Int.reduceLT,Int.reduceLE,↓reduceIte]
 have b:∀ h nx,lim T 40 [.str n,.str s] h nx=some (.int .i64 (Go.Lib.compareBytes n s),h,nx):=by
  refine lim_iso tg40 rfl rfl rfl ?_
  simp (disch:=first | exact d_G2 | fail) only [c40,a,EVS,Nat.reduceAdd,Nat.reduceSub,Int.reduceToNat,Nat.reduceMul,Nat.reduceEqDiff,Nat.reduceLeDiff,Int.reduceEq,Int.reduceLT,Int.reduceLE,↓reduceIte]
 refine lim_iso tg39 rfl rfl rfl ?_
 simp (disch:=first | exact d_G2 | fail) only [c39,b,EVS,Nat.reduceAdd,Nat.reduceSub,Int.reduceToNat,Nat.reduceMul,Nat.reduceEqDiff,Nat.reduceLeDiff,Int.reduceEq,Int.reduceLT,Int.reduceLE,↓reduceIte]
abbrev PS (env:Env) (s:List UInt8) (r:FV):Prop:=∃ i:Nat,i ≤ env.length∧(∀ k,k < i→Op.bytesLess (nm env k) s=true)∧(∀ k,i ≤ k→k < env.length→¬ Op.bytesLess (nm env k) s=true)∧r=.tup [.int .i64 i,.bool (decide (i < env.length∧(env.getD i ([],0,0)).1=s))]
theorem bsB_loop (e:Bool) (env:Env) (s:List UInt8) (hl:env.length ≤ 1100)
  (mono:∀ a b,a < b→b < env.length→Op.bytesLess (nm env a) (nm env b)=true):∀ (n i j:Nat),j - i ≤ n→i ≤ j→j ≤ env.length→(∀ k,k < i→Op.bytesLess (nm env k) s=true)→(∀ k,j ≤ k→k < env.length→¬ Op.bytesLess (nm env k) s=true) →
  @Ok Out (runs T [.code b38_0,.inL (some 8) b38_0,.inB 0,.code k38_1] [(0,.lst e (env.map bdV)),(1,.str s),(2,.fn 39 []),(8,.int .i64 env.length),(9,.int .i64 i),(10,.int .i64 j)] [] 8) ⟨fun x=>@Ok FV (resV c38.res x) ⟨PS env s⟩⟩:=by
 intro n
 induction n with
 |zero =>
  intro i j hn hij hj lo hi
  have:¬ (i:Int) < j:=by omega
  have e:j=i:=by omega
  subst e
  simp (disch:=first | exact d_G2 | fail) only [unf b38_0.eq_1,unf k38_1.eq_1,c38,this,EnL,EVS,Nat.reduceAdd,Nat.reduceSub,Int.reduceToNat,Nat.reduceMul,Nat.reduceEqDiff,Nat.reduceLeDiff,Int.reduceEq,Int.reduceLT,Int.reduceLE,↓reduceIte]
  repeat' (refine Ok_if (fun hb=>?_) (fun hb=>?_)<;>have h:=hb<;>(try simp only [decide_eq_true_eq,decide_eq_false_iff_not,Int.not_lt,Int.not_le] at h)<;>(simp (disch:=first | exact d_G2 | fail) only [hb,c38,EnL,gd_e,cmpE_spec,EVS,Nat.reduceAdd,Nat.reduceSub,Int.reduceToNat,Nat.reduceMul,Nat.reduceEqDiff,Nat.reduceLeDiff,Int.reduceEq,Int.reduceLT,Int.reduceLE,↓reduceIte])<;>(try clear hb))
  ·refine ⟨j,hj,lo,hi,?_⟩
   rw [show decide (Go.Lib.compareBytes (List.getD env j ([],0,0)).1 s=0)=decide (j < env.length∧(env.getD j ([],0,0)).1=s) from decide_eq_decide.2 ((cb_eq _ _).trans ⟨fun h'=>⟨by omega,h'⟩,fun h'=>h'.2⟩)]
  ·refine ⟨j,hj,lo,hi,?_⟩
   rw [show decide (j < env.length∧(env.getD j ([],0,0)).1=s)=false from decide_eq_false fun h'=>by omega]
 |succ n ih =>
  intro i j hn hij hj lo hi
  by_cases hlt:i < j
  ·have:(i:Int) < j:=by omega
   have hx:((i:Int) + j) / 2=((i + j) / 2:Nat):=by omega
   have hx1:(i + j) / 2 < env.length:=by omega
   simp (disch:=first | exact d_G2 | fail) only [unf b38_0.eq_1,c38,this,EnL,shr1,hx,cmpE_spec,EVS,Nat.reduceAdd,Nat.reduceSub,Int.reduceToNat,Nat.reduceMul,Nat.reduceEqDiff,Nat.reduceLeDiff,Int.reduceEq,Int.reduceLT,Int.reduceLE,↓reduceIte]
   repeat' (refine Ok_if (fun hb=>?_) (fun hb=>?_)<;>have h:=hb<;>(try simp only [decide_eq_true_eq,decide_eq_false_iff_not,Int.not_lt,Int.not_le] at h)<;>(simp (disch:=first | exact d_G2 | fail) only [hb,c38,EnL,gd_e,cmpE_spec,EVS,Nat.reduceAdd,Nat.reduceSub,Int.reduceToNat,Nat.reduceMul,Nat.reduceEqDiff,Nat.reduceLeDiff,Int.reduceEq,Int.reduceLT,Int.reduceLE,↓reduceIte])<;>(try clear hb))
   ·rw [cb_lt] at h
    refine Ok_inL (by decide) (by simp [lowTm,low,lows,EnL]) (by simp [cutH,lowHeap]) (ih ((i + j) / 2 + 1) j (by omega) (by omega) hj (fun k hk=>?_) hi)
    by_cases e:k=(i + j) / 2
    ·rw [e];exact h
    ·exact less_trans (mono k ((i + j) / 2) (by omega) hx1) h
   ·refine Ok_inL (by decide) (by simp [lowTm,low,lows,EnL]) (by simp [cutH,lowHeap]) (ih i ((i + j) / 2) (by omega) (by omega) (by omega) lo (fun k hk hk' hb=>?_))
    have h':¬ Op.bytesLess (nm env ((i + j) / 2)) s=true:=fun hb=>by have hb':Go.Lib.compareBytes (List.getD env ((i + j) / 2) ([],0,0)).1 s < 0:=(cb_lt _ _).2 hb;omega
    by_cases e:k=(i + j) / 2
    ·rw [e] at hb;exact h' hb
    ·exact h' (less_trans (mono ((i + j) / 2) k (by omega) hk') hb)
  ·exact ih i j (by omega) hij hj lo hi
theorem search_spec (e:Bool) (env:Env) (s:List UInt8) (hl:env.length ≤ 1100) (mono:∀ a b,a < b→b < env.length→Op.bytesLess (nm env a) (nm env b)=true) :
  ∃ r,PS env s r∧∀ h nx,lim T 38 [.lst e (env.map bdV),.str s,.fn 39 []] h nx=some (r,h,nx):=by
 refine lim_isoP tg38 rfl rfl (by simp [pures,pure_,pu_e]) ?_
 simp (disch:=first | exact d_G2 | fail) only [c38,EnL,EVS,Nat.reduceAdd,Nat.reduceSub,Int.reduceToNat,Nat.reduceMul,Nat.reduceEqDiff,Nat.reduceLeDiff,Int.reduceEq,Int.reduceLT,Int.reduceLE,↓reduceIte]
 exact bsB_loop e env s hl mono env.length 0 env.length (by omega) (by omega) (by omega) (by omega) (by omega)
theorem chkB_good {env:Env} (h:chkB env=0):env.length ≤ 1000∧∀ i,i < env.length→goodB env i:=by
 unfold chkB at h
 split at h
 ·assumption
 ·cases h
theorem chkB_bad {env:Env} (h:¬ chkB env=0):chkB env=8:=by
 unfold chkB at h ⊢
 split at h
 ·exact absurd rfl h
 ·rename_i hn;rw [if_neg hn]
theorem mono_of {env:Env} (h:∀ i,i < env.length→goodB env i):∀ a b,a < b→b < env.length→Op.bytesLess (nm env a) (nm env b)=true:=by
 intro a b hab hb
 induction b with
 |zero=>omega
 |succ b ih =>
  have:=(h (b + 1) hb).2.2 (by omega)
  simp only [Nat.add_sub_cancel] at this
  by_cases e:a=b
  ·rw [e];exact this
  ·exact less_trans (ih (by omega) (by omega)) this
theorem nodesOk_iff (t:Te):nodesOk t ↔ nodeS t∧∀ x ∈ t.l,nodesOk x:=all_nodes
theorem nodesOk_wide {t:Te} (h:nodesOk t):1 ≤ t.w∧t.w ≤ 64:=(h t (mem_nodes t)).1
theorem allW1 {l:List Te} {w:Int} (h:l.length=1):allW l w ↔ (l.getD 0 default).w=w :=
 ⟨fun hh=>hh 0 (by omega),fun hh j hj=>by rw [show j=0 by omega];exact hh⟩
theorem allW2 {l:List Te} {w:Int} (h:l.length=2):allW l w ↔ (l.getD 0 default).w=w∧(l.getD 1 default).w=w :=
 ⟨fun hh=>⟨hh 0 (by omega),hh 1 (by omega)⟩,fun hh j hj=>by
  rcases (by omega:j=0 ∨ j=1) with rfl | rfl
  ·exact hh.1
  ·exact hh.2⟩
theorem node_k34 {t:Te} (h:t.k=3 ∨ t.k=4):nodeS t ↔ wideS t.w∧t.b=0∧t.s=[]∧t.lo=0∧t.l.length=1∧subW t 0=t.w:=by
 have e1:howS t.k=1:=by unfold howS;(repeat' split)<;>omega
 have e2:partsS t.k=1:=by unfold partsS;(repeat' split)<;>omega
 have e3:((t.l.length:Int)=1) ↔ t.l.length=1:=by omega
 unfold nodeS
 rw [if_pos (by omega),e1,e2,e3]
 simp only [widthsS,Int.reduceEq,↓reduceIte,or_false,or_true,true_and]
 exact ⟨fun ⟨a,b,c,d,e,f⟩=>⟨a,b,c,d,e,(allW1 e).1 f⟩,fun ⟨a,b,c,d,e,f⟩=>⟨a,b,c,d,e,(allW1 e).2 f⟩⟩
theorem node_k5 {t:Te} (h:5 ≤ t.k∧t.k ≤ 15):nodeS t ↔ wideS t.w∧t.b=0∧t.s=[]∧t.lo=0∧t.l.length=2∧subW t 0=t.w∧subW t 1=t.w:=by
 have e1:howS t.k=1:=by unfold howS;(repeat' split)<;>omega
 have e2:partsS t.k=2:=by unfold partsS;(repeat' split)<;>omega
 have e3:((t.l.length:Int)=2) ↔ t.l.length=2:=by omega
 unfold nodeS
 rw [if_pos (by omega),e1,e2,e3]
 simp only [widthsS,Int.reduceEq,↓reduceIte,or_false,or_true,true_and]
 exact ⟨fun ⟨a,b,c,d,e,f⟩=>⟨a,b,c,d,e,(allW2 e).1 f⟩,fun ⟨a,b,c,d,e,f⟩=>⟨a,b,c,d,e,(allW2 e).2 f⟩⟩
theorem node_k16 {t:Te} (h:16 ≤ t.k∧t.k ≤ 18):nodeS t ↔ wideS t.w∧t.b=0∧t.s=[]∧t.lo=0∧t.l.length=2∧t.w=1∧subW t 1=subW t 0:=by
 have e1:howS t.k=2:=by unfold howS;(repeat' split)<;>omega
 have e2:partsS t.k=2:=by unfold partsS;(repeat' split)<;>omega
 have e3:((t.l.length:Int)=2) ↔ t.l.length=2:=by omega
 unfold nodeS
 rw [if_pos (by omega),e1,e2,e3]
 simp only [widthsS,Int.reduceEq,↓reduceIte,or_false,or_true,true_and]
theorem node_k19 {t:Te} (h:t.k=19):nodeS t ↔ wideS t.w∧t.b=0∧t.s=[]∧t.lo=0∧t.l.length=3∧subW t 0=1∧subW t 1=t.w∧subW t 2=t.w:=by
 have e1:howS t.k=3:=by unfold howS;(repeat' split)<;>omega
 have e2:partsS t.k=3:=by unfold partsS;(repeat' split)<;>omega
 have e3:((t.l.length:Int)=3) ↔ t.l.length=3:=by omega
 unfold nodeS
 rw [if_pos (by omega),e1,e2,e3]
 simp only [widthsS,Int.reduceEq,↓reduceIte,or_false,or_true,true_and]
theorem node_k20 {t:Te} (h:t.k=20):nodeS t ↔ wideS t.w∧t.b=0∧t.s=[]∧t.lo=0∧t.l.length=2∧wideS (subW t 0)∧wideS (subW t 1)∧subW t 0 + subW t 1=t.w:=by
 have e1:howS t.k=4:=by unfold howS;(repeat' split)<;>omega
 have e2:partsS t.k=2:=by unfold partsS;(repeat' split)<;>omega
 have e3:((t.l.length:Int)=2) ↔ t.l.length=2:=by omega
 unfold nodeS
 rw [if_pos (by omega),e1,e2,e3]
 simp only [widthsS,Int.reduceEq,↓reduceIte,or_false,or_true,true_and]
theorem node_k21 {t:Te} (h:t.k=21):nodeS t ↔ wideS t.w∧t.b=0∧t.s=[]∧True∧t.l.length=1∧0 ≤ t.lo∧wideS (subW t 0)∧t.w ≤ subW t 0∧t.lo ≤ subW t 0 - t.w:=by
 have e1:howS t.k=5:=by unfold howS;(repeat' split)<;>omega
 have e2:partsS t.k=1:=by unfold partsS;(repeat' split)<;>omega
 have e3:((t.l.length:Int)=1) ↔ t.l.length=1:=by omega
 unfold nodeS
 rw [if_pos (by omega),e1,e2,e3]
 simp only [widthsS,Int.reduceEq,↓reduceIte,or_false,or_true,true_and]
theorem node_k22 {t:Te} (h:t.k=22 ∨ t.k=23):nodeS t ↔ wideS t.w∧t.b=0∧t.s=[]∧t.lo=0∧t.l.length=1∧subW t 0 ≤ t.w:=by
 have e1:howS t.k=6:=by unfold howS;(repeat' split)<;>omega
 have e2:partsS t.k=1:=by unfold partsS;(repeat' split)<;>omega
 have e3:((t.l.length:Int)=1) ↔ t.l.length=1:=by omega
 unfold nodeS
 rw [if_pos (by omega),e1,e2,e3]
 simp only [widthsS,Int.reduceEq,↓reduceIte,or_false,or_true,true_and]
theorem node_k24 {t:Te} (h:t.k=24):nodeS t ↔ wideS t.w∧t.b=0∧t.s=[]∧t.lo=0∧t.l.length=1∧loadsS t.w:=by
 have e1:howS t.k=7:=by unfold howS;(repeat' split)<;>omega
 have e2:partsS t.k=1:=by unfold partsS;(repeat' split)<;>omega
 have e3:((t.l.length:Int)=1) ↔ t.l.length=1:=by omega
 unfold nodeS
 rw [if_pos (by omega),e1,e2,e3]
 simp only [widthsS,Int.reduceEq,↓reduceIte,or_false,or_true,true_and]
theorem node_k1 {t:Te} (h:t.k=1):nodeS t ↔ wideS t.w∧t.l.length=0∧t.lo=0∧t.s=[]∧okS t.w t.b:=by
 unfold nodeS
 rw [if_neg (by omega)]
 simp only [h,Int.reduceEq,true_and,false_and,or_false]
theorem node_k2 {t:Te} (h:t.k=2):nodeS t ↔ wideS t.w∧t.l.length=0∧t.lo=0∧t.b=0∧nameS (strip t.s):=by
 unfold nodeS
 rw [if_neg (by omega)]
 simp only [h,Int.reduceEq,true_and,false_and,false_or]
theorem node_no {t:Te} (h:t.k < 1 ∨ 24 < t.k):¬ nodeS t:=by
 unfold nodeS
 rw [if_neg (by omega)]
 rintro ⟨_,_,_,⟨h1,_⟩ | ⟨h1,_⟩⟩<;>omega
theorem node_need {t:Te} (h:nodeS t):(1 ≤ t.w∧t.w ≤ 64)∧(3 ≤ t.k→t.k ≤ 24∧t.b=0∧t.s=[]∧(t.lo=0 ∨ t.k=21)∧0 < t.l.length):=by
 refine ⟨h.1,fun h3=>?_⟩
 have h24:t.k ≤ 24:=by
  rcases Int.lt_or_le 24 t.k with h' | h'
  ·exact absurd h (node_no (.inr h'))
  ·exact h'
 have h2:=h.2
 rw [if_pos ⟨h3,h24⟩] at h2
 obtain ⟨a,b,c,d,_⟩:=h2
 have hp:=(parts_pos t.k).2 ⟨h3,h24⟩
 have hh:howS t.k=5→t.k=21:=by unfold howS;(repeat' split)<;>omega
 exact ⟨h24,a,b,c.imp id hh,by omega⟩
theorem d_V2a {P:Prop} (h:P:=by first|omega|(simp only[EVL]<;>omega)|(simp only[hget_c,Nat.reduceEqDiff,↓reduceIte];done)|assumption|(simp (disch:=omega) only[hg_ne,hg_eq,hgs_ne, *];done)|(simp only [LAWSb];done)|with_unfolding_all rfl):P:=h
theorem eqF_loop (a b:Te) (hl:a.l.length=b.l.length) (hb:a.l.length ≤ 1000000) (ih:∀ x ∈ a.l,∀ y ∈ b.l,∀ h nx,lim T 140 [.agg [.int .u8 (x).k,.int .i64 (x).w,.int .u64 (x).b,.str (x).s,.int .i64 (x).lo,.lst (x).e ((x).l.map tV)],.agg [.int .u8 (y).k,.int .i64 (y).w,.int .u64 (y).b,.str (y).s,.int .i64 (y).lo,.lst (y).e ((y).l.map tV)]] h nx=some (.bool (sameT x y),h,nx)):∀ (k i:Nat),i + k=a.l.length →
  @Ok Out (runs T [.code b186_0,.inL (some 9) b186_0,.inB 0,.code k186_1] [(1,.lst b.e (b.l.map tV)),(2,.fn 140 []),(15,.lst a.e (a.l.map tV)),(16,.int .i64 a.l.length),(17,.int .i64 i)] [] 9) ⟨fun x=>resV c186.res x=some (.bool (sameL (a.l.drop i) (b.l.drop i)))⟩:=by
 intro k
 induction k with
 |zero =>
  intro i hi
  have:¬ (i:Int) < a.l.length:=by omega
  simp (disch:=first | exact d_V2a | fail) only [unf b186_0.eq_1,unf k186_1.eq_1,c186,this,LAWSb,EVS,Nat.reduceAdd,Nat.reduceSub,Int.reduceToNat,Nat.reduceMul,Nat.reduceEqDiff,Nat.reduceLeDiff,Int.reduceEq,Int.reduceLT,Int.reduceLE,↓reduceIte]
  rw [List.drop_eq_nil_of_le (by omega),List.drop_eq_nil_of_le (by omega)];rfl
 |succ k ihk =>
  intro i hi
  have:(i:Int) < a.l.length:=by omega
  have hx:=ih _ (getD_mem (d:=default) (show i < a.l.length by omega)) _ (getD_mem (d:=default) (show i < b.l.length by omega))
  rw [sameL_drop (by omega) (by omega)]
  cases hs:sameT (a.l.getD i default) (b.l.getD i default) with
  |true =>
   rw [hs] at hx
   simp (disch:=first | exact d_V2a | fail) only [unf b186_0.eq_1,c186,this,LAWSb,hx,EVS,Nat.reduceAdd,Nat.reduceSub,Int.reduceToNat,Nat.reduceMul,Nat.reduceEqDiff,Nat.reduceLeDiff,Int.reduceEq,Int.reduceLT,Int.reduceLE,↓reduceIte]
   rw [Bool.true_and]
   exact Ok_inL (by decide) (by simp [lowTm,low,lows,LAWSb]) (by simp [cutH,lowHeap,lowObj,lows,low,LAWSb]) (ihk (i + 1) (by omega))
  |false =>
   rw [hs] at hx
   simp (disch:=first | exact d_V2a | fail) only [unf b186_0.eq_1,c186,this,LAWSb,hx,EVS,Nat.reduceAdd,Nat.reduceSub,Int.reduceToNat,Nat.reduceMul,Nat.reduceEqDiff,Nat.reduceLeDiff,Int.reduceEq,Int.reduceLT,Int.reduceLE,↓reduceIte]
   rfl
theorem sameP_spec (a:Te):∀ (b:Te),size a ≤ 1000000→size b ≤ 1000000→∀ h nx,lim T 140 [.agg [.int .u8 (a).k,.int .i64 (a).w,.int .u64 (a).b,.str (a).s,.int .i64 (a).lo,.lst (a).e ((a).l.map tV)],.agg [.int .u8 (b).k,.int .i64 (b).w,.int .u64 (b).b,.str (b).s,.int .i64 (b).lo,.lst (b).e ((b).l.map tV)]] h nx=some (.bool (sameT a b),h,nx):=by
 induction a using Tm'.ind with
 |h a ih =>
 intro b ha hb
 have hsa:=sizes_len a.l
 have hsb:=sizes_len b.l
 have hse:=size_eq a
 have hsf:=size_eq b
 have heq:∀ h nx,lim T 186 [.lst a.e (a.l.map tV),.lst b.e (b.l.map tV),.fn 140 []] h nx=some (.bool (sameL a.l b.l),h,nx):=by
  refine lim_iso tg186 rfl rfl (by simp [pures,pure_,pu_Ts]) ?_
  by_cases hl:a.l.length=b.l.length
  ·have hl':(a.l.length:Int)=b.l.length:=by omega
   simp (disch:=first | exact d_V2a | fail) only [c186,LAWSb,hl',EVS,Nat.reduceAdd,Nat.reduceSub,Int.reduceToNat,Nat.reduceMul,Nat.reduceEqDiff,Nat.reduceLeDiff,Int.reduceEq,Int.reduceLT,Int.reduceLE,↓reduceIte]
   have:=eqF_loop a b hl (by omega) (fun x hx y hy=>ih x hx y (by have:=size_mem hx;omega) (by have:=size_mem hy;omega)) a.l.length 0 (by omega)
   rw [List.drop_zero,List.drop_zero,hl] at this
   exact this
  ·have hl':¬ (a.l.length:Int)=b.l.length:=by omega
   simp (disch:=first | exact d_V2a | fail) only [c186,LAWSb,hl',EVS,Nat.reduceAdd,Nat.reduceSub,Int.reduceToNat,Nat.reduceMul,Nat.reduceEqDiff,Nat.reduceLeDiff,Int.reduceEq,Int.reduceLT,Int.reduceLE,↓reduceIte]
   cases hh:sameL a.l b.l with
   |false=>rfl
   |true=>exact absurd (sameL_len hh) hl
 rw [sameT_eq]
 refine lim_iso tg140 rfl rfl (by simp [pures,pure_,pu_Ts]) ?_
 by_cases e1:a.k=b.k
 ·by_cases e2:a.w=b.w
  ·by_cases e3:a.b=b.b
   ·cases e4:(a.s == b.s) with
    |true =>
     by_cases e5:a.lo=b.lo
     ·simp (disch:=first | exact d_V2a | fail) only [c140,LAWSb,e1,e2,e3,e4,e5,heq,decide_true,Bool.true_and,EVS,Nat.reduceAdd,Nat.reduceSub,Int.reduceToNat,Nat.reduceMul,Nat.reduceEqDiff,Nat.reduceLeDiff,Int.reduceEq,Int.reduceLT,Int.reduceLE,↓reduceIte]
     ·simp (disch:=first | exact d_V2a | fail) only [c140,LAWSb,e1,e2,e3,e4,e5,heq,decide_true,decide_false,Bool.true_and,Bool.false_and,EVS,Nat.reduceAdd,Nat.reduceSub,Int.reduceToNat,Nat.reduceMul,Nat.reduceEqDiff,Nat.reduceLeDiff,Int.reduceEq,Int.reduceLT,Int.reduceLE,↓reduceIte]
    |false=>simp (disch:=first | exact d_V2a | fail) only [c140,LAWSb,e1,e2,e3,e4,heq,decide_true,decide_false,Bool.true_and,Bool.false_and,EVS,Nat.reduceAdd,Nat.reduceSub,Int.reduceToNat,Nat.reduceMul,Nat.reduceEqDiff,Nat.reduceLeDiff,Int.reduceEq,Int.reduceLT,Int.reduceLE,↓reduceIte]
   ·simp (disch:=first | exact d_V2a | fail) only [c140,LAWSb,e1,e2,e3,heq,decide_true,decide_false,Bool.true_and,Bool.false_and,EVS,Nat.reduceAdd,Nat.reduceSub,Int.reduceToNat,Nat.reduceMul,Nat.reduceEqDiff,Nat.reduceLeDiff,Int.reduceEq,Int.reduceLT,Int.reduceLE,↓reduceIte]
  ·simp (disch:=first | exact d_V2a | fail) only [c140,LAWSb,e1,e2,heq,decide_true,decide_false,Bool.true_and,Bool.false_and,EVS,Nat.reduceAdd,Nat.reduceSub,Int.reduceToNat,Nat.reduceMul,Nat.reduceEqDiff,Nat.reduceLeDiff,Int.reduceEq,Int.reduceLT,Int.reduceLE,↓reduceIte]
 ·simp (disch:=first | exact d_V2a | fail) only [c140,LAWSb,e1,heq,decide_true,decide_false,Bool.true_and,Bool.false_and,EVS,Nat.reduceAdd,Nat.reduceSub,Int.reduceToNat,Nat.reduceMul,Nat.reduceEqDiff,Nat.reduceLeDiff,Int.reduceEq,Int.reduceLT,Int.reduceLE,↓reduceIte]
theorem d_R2a {P:Prop} (h:P:=by first|omega|(simp only[EVL]<;>omega)|(simp only[hget_c,Nat.reduceEqDiff,↓reduceIte];done)|assumption|(simp (disch:=omega) only[hg_ne,hg_eq,hgs_ne, *];done)|(simp only [LAWSb];done)|with_unfolding_all rfl):P:=h
theorem same_lim (a b:FV) (h:Heap) (nx:Nat):lim T 14 [a,b] h nx=@FI.B (List FV) (FV × Heap × Nat) (frzs h deep [a,b]) ⟨fun q=>isfR T c14 q h nx⟩:=lim_isf tg14 rfl rfl
theorem same_pure' {a b:Te} {r:Bool} (hs:∀ h nx,isfR T c14 [.agg [.int .u8 (a).k,.int .i64 (a).w,.int .u64 (a).b,.str (a).s,.int .i64 (a).lo,.lst (a).e ((a).l.map tV)],.agg [.int .u8 (b).k,.int .i64 (b).w,.int .u64 (b).b,.str (b).s,.int .i64 (b).lo,.lst (b).e ((b).l.map tV)]] h nx=some (.bool r,h,nx)):∀ h nx,lim T 14 [.agg [.int .u8 (a).k,.int .i64 (a).w,.int .u64 (a).b,.str (a).s,.int .i64 (a).lo,.lst (a).e ((a).l.map tV)],.agg [.int .u8 (b).k,.int .i64 (b).w,.int .u64 (b).b,.str (b).s,.int .i64 (b).lo,.lst (b).e ((b).l.map tV)]] h nx=some (.bool r,h,nx):=by
 intro h nx
 rw [same_lim,frzs_pure (by simp [pures,pure_,pu_Ts]) (show (2:Nat) ≤ deep by decide),B_some]
 exact hs h nx
theorem same_loop (a b:Te) (hl:a.l.length=b.l.length) (hb:a.l.length ≤ 1000000) (ih:∀ x ∈ a.l,∀ y ∈ b.l,∀ h nx,lim T 14 [.agg [.int .u8 (x).k,.int .i64 (x).w,.int .u64 (x).b,.str (x).s,.int .i64 (x).lo,.lst (x).e ((x).l.map tV)],.agg [.int .u8 (y).k,.int .i64 (y).w,.int .u64 (y).b,.str (y).s,.int .i64 (y).lo,.lst (y).e ((y).l.map tV)]] h nx=some (.bool (sameT x y),h,nx)):∀ (k i:Nat),i + k=a.l.length →
  @Ok Out (runs T [.code b14_0,.inL (some 46) b14_0,.inB 0,.code k14_1] [(2,.ptr 0 1 0 0),(3,.ptr 1 1 0 0),(5,.int .i64 i)] [(1,.row 6 [.agg [.int .u8 (b).k,.int .i64 (b).w,.int .u64 (b).b,.str (b).s,.int .i64 (b).lo,.lst (b).e ((b).l.map tV)]]),(0,.row 6 [.agg [.int .u8 (a).k,.int .i64 (a).w,.int .u64 (a).b,.str (a).s,.int .i64 (a).lo,.lst (a).e ((a).l.map tV)]])] 46) ⟨fun x=>finV c14.res x=some (.bool (sameL (a.l.drop i) (b.l.drop i)))⟩:=by
 intro k
 induction k with
 |zero =>
  intro i hi
  have:¬ (i:Int) < a.l.length:=by omega
  simp (disch:=first | exact d_R2a | fail) only [unf b14_0.eq_1,unf k14_1.eq_1,c14,this,LAWSb,EVS,Nat.reduceAdd,Nat.reduceSub,Int.reduceToNat,Nat.reduceMul,Nat.reduceEqDiff,Nat.reduceLeDiff,Int.reduceEq,Int.reduceLT,Int.reduceLE,↓reduceIte]
  rw [List.drop_eq_nil_of_le (by omega),List.drop_eq_nil_of_le (by omega)];rfl
 |succ k ihk =>
  intro i hi
  have:(i:Int) < a.l.length:=by omega
  have hx:=ih _ (getD_mem (d:=default) (show i < a.l.length by omega)) _ (getD_mem (d:=default) (show i < b.l.length by omega))
  rw [sameL_drop (by omega) (by omega)]
  cases hs:sameT (a.l.getD i default) (b.l.getD i default) with
  |true =>
   rw [hs] at hx
   simp (disch:=first | exact d_R2a | fail) only [unf b14_0.eq_1,c14,this,LAWSb,hx,EVS,Nat.reduceAdd,Nat.reduceSub,Int.reduceToNat,Nat.reduceMul,Nat.reduceEqDiff,Nat.reduceLeDiff,Int.reduceEq,Int.reduceLT,Int.reduceLE,↓reduceIte]
   rw [Bool.true_and]
   exact Ok_inL (by decide) (by simp [lowTm,low,lows,LAWSb]) (by simp [cutH,lowHeap,lowObj,lows,low,LAWSb]) (ihk (i + 1) (by omega))
  |false =>
   rw [hs] at hx
   simp (disch:=first | exact d_R2a | fail) only [unf b14_0.eq_1,c14,this,LAWSb,hx,EVS,Nat.reduceAdd,Nat.reduceSub,Int.reduceToNat,Nat.reduceMul,Nat.reduceEqDiff,Nat.reduceLeDiff,Int.reduceEq,Int.reduceLT,Int.reduceLE,↓reduceIte]
   rfl
theorem same_spec (a:Te):∀ (b:Te),size a ≤ 1000000→size b ≤ 1000000→∀ h nx,isfR T c14 [.agg [.int .u8 (a).k,.int .i64 (a).w,.int .u64 (a).b,.str (a).s,.int .i64 (a).lo,.lst (a).e ((a).l.map tV)],.agg [.int .u8 (b).k,.int .i64 (b).w,.int .u64 (b).b,.str (b).s,.int .i64 (b).lo,.lst (b).e ((b).l.map tV)]] h nx=some (.bool (sameT a b),h,nx):=by
 induction a using Tm'.ind with
 |h a ih =>
 intro b ha hb h nx
 refine isfR_of rfl ?_
 have hsa:=sizes_len a.l
 have hsb:=sizes_len b.l
 have hse:=size_eq a
 have hsf:=size_eq b
 rw [sameT_eq]
 simp (disch:=first | exact d_R2a | fail) only [c14,LAWSb,EVS,Nat.reduceAdd,Nat.reduceSub,Int.reduceToNat,Nat.reduceMul,Nat.reduceEqDiff,Nat.reduceLeDiff,Int.reduceEq,Int.reduceLT,Int.reduceLE,↓reduceIte]
 repeat' (refine Ok_if (fun hb=>?_) (fun hb=>?_)<;>have h:=hb<;>(try simp only [decide_eq_true_eq,decide_eq_false_iff_not,Int.not_lt,Int.not_le] at h)<;>(simp (disch:=first | exact d_R2a | fail) only [hb,c14,LAWSb,EVS,Nat.reduceAdd,Nat.reduceSub,Int.reduceToNat,Nat.reduceMul,Nat.reduceEqDiff,Nat.reduceLeDiff,Int.reduceEq,Int.reduceLT,Int.reduceLE,↓reduceIte])<;>(try clear hb))
 ·have hl:=same_loop a b (by omega) (by omega) (fun x hx y hy=>same_pure' (ih x hx y (by have:=size_mem hx;omega) (by have:=size_mem hy;omega))) a.l.length 0 (by omega)
  rw [List.drop_zero,List.drop_zero] at hl
  rename_i e1 e2 e3 e4 e5
  rw [decide_eq_true e1,decide_eq_true e2,decide_eq_true e3,e4,decide_eq_true e5]
  exact hl
 ·have:sameL a.l b.l=false:=by
   cases hh:sameL a.l b.l with
   |false=>rfl
   |true=>have:=sameL_len hh;omega
  simp [this]
 ·simp [h]
 ·simp [h]
 ·simp [h]
 ·simp [h]
 ·simp [h]
theorem same_pure (a b:Te) (ha:size a ≤ 1000000) (hb:size b ≤ 1000000):∀ h nx,lim T 14 [.agg [.int .u8 (a).k,.int .i64 (a).w,.int .u64 (a).b,.str (a).s,.int .i64 (a).lo,.lst (a).e ((a).l.map tV)],.agg [.int .u8 (b).k,.int .i64 (b).w,.int .u64 (b).b,.str (b).s,.int .i64 (b).lo,.lst (b).e ((b).l.map tV)]] h nx=some (.bool (sameT a b),h,nx):=same_pure' (same_spec a b ha hb)
theorem d_V2p {P:Prop} (h:P:=by first|omega|(simp only[EVL]<;>omega)|(simp only[hget_c,Nat.reduceEqDiff,↓reduceIte];done)|assumption|(simp (disch:=omega) only[hg_ne,hg_eq,hgs_ne, *];done)|(simp only [LAWSb];done)|with_unfolding_all rfl):P:=h
def hasL (xs:List Te):Bool:=xs.any fun x=>decide (x.k=24)
abbrev loadG (_:Unit) (x:Te):Unit ⊕ Unit:=if x.k=24 then .inr () else .inl ()
theorem loadG_run:∀ xs:List Te,foldE loadG () xs=if hasL xs=true then .inr () else .inl ():=by
 intro xs
 induction xs with
 |nil=>rfl
 |cons x xs ih =>
  by_cases h:x.k=24
  ·have e:loadG () x=.inr ():=if_pos h
   simp only [foldE,e]
   simp [hasL,h]
  ·have e:loadG () x=.inl ():=if_neg h
   simp only [foldE,e]
   rw [ih]
   simp [hasL,h]
open Classical in
noncomputable def pureS (t:Te):Bool:=decide (checkS t=0) && !hasL (nodesT t)
abbrev puP (t:Te) (_:Unit) (h:Heap):Prop:=hget h 7=some (.lp 0 0)∧hget h 1=some (.row 1 [.bool false])∧hget h 0=some (.row 6 [.agg [.int .u8 (t).k,.int .i64 (t).w,.int .u64 (t).b,.str (t).s,.int .i64 (t).lo,.lst (t).e ((t).l.map tV)]])
abbrev puQ (_:Unit) (h:Heap):Prop:=hget h 7=some (.lp 2 1)∧hget h 1=some (.row 1 [.bool false])
theorem pureP_spec (t:Te) (hl:size t ≤ 1000000) (hk:KOk t):∀ h nx,lim T 25 [.agg [.int .u8 (t).k,.int .i64 (t).w,.int .u64 (t).b,.str (t).s,.int .i64 (t).lo,.lst (t).e ((t).l.map tV)]] h nx=some (.bool (pureS t),h,nx):=by
 have hc:=check_pure t hl hk
 refine lim_iso tg25 rfl rfl (by simp [pures,pure_,pu_Ts]) ?_
 by_cases h:checkS t=0
 ·simp (disch:=first | exact d_V2p | fail) only [c25,nodes_spec,LAWSb,hc,h,EVS,Nat.reduceAdd,Nat.reduceSub,Int.reduceToNat,Nat.reduceMul,Nat.reduceEqDiff,Nat.reduceLeDiff,Int.reduceEq,Int.reduceLT,Int.reduceLE,↓reduceIte]
  refine Ok_call1 (walk_spec 1002500 7 8 [.ptr 1 1 0 0] loadG (puP t) puQ (fun a h h' hp hk=>⟨(hk _ (by omega)).trans hp.1,(hk _ (by omega)).trans hp.2.1,(hk _ (by omega)).trans hp.2.2⟩) t hl ?_ () _ _ (by omega) ⟨rfl,rfl,rfl⟩) fun r hr=>?_
  ·intro x hx u h nx hb hp
   obtain ⟨p1,p2,p3⟩:=hp
   rw [lim_round tg1002500 rfl rfl p1]
   show @Ok _ _ ⟨fun r=>ResR _ _ _ _ _ r _⟩
   simp only [r1002500]
   by_cases hx:x.k=24
   ·have hg:loadG u x=.inr ():=if_pos hx
    rw [hg]
    simp (disch:=first | exact d_V2p | fail) only [unf a25_1.eq_1,unf b25_0.eq_1,p1,p2,p3,hgs_ne,hgs_eq p1,hx,EVS,Nat.reduceAdd,Nat.reduceSub,Int.reduceToNat,Nat.reduceMul,Nat.reduceEqDiff,Nat.reduceLeDiff,Int.reduceEq,Int.reduceLT,Int.reduceLE,↓reduceIte]
    exact ⟨rfl,⟨by (simp (disch:=omega) only [hg_ne,hg_eq,hgs_ne,hgx_e,Option.map_some, *]),by (simp (disch:=omega) only [hg_ne,hg_eq,hgs_ne,hgx_e,Option.map_some, *])⟩,⟨by dsimp only;omega,fun i hi hl=>by simp (disch:=omega) only [hg_ne,hgs_ne]⟩⟩
   ·have hg:loadG u x=.inl ():=if_neg hx
    rw [hg]
    simp (disch:=first | exact d_V2p | fail) only [unf a25_1.eq_1,unf b25_0.eq_1,p1,p2,p3,hgs_ne,hgs_eq p1,hx,EVS,Nat.reduceAdd,Nat.reduceSub,Int.reduceToNat,Nat.reduceMul,Nat.reduceEqDiff,Nat.reduceLeDiff,Int.reduceEq,Int.reduceLT,Int.reduceLE,↓reduceIte]
    exact ⟨rfl,⟨by (simp (disch:=omega) only [hg_ne,hg_eq,hgs_ne,hgx_e,Option.map_some, *]),by (simp (disch:=omega) only [hg_ne,hg_eq,hgs_ne,hgx_e,Option.map_some, *]),by (simp (disch:=omega) only [hg_ne,hg_eq,hgs_ne,hgx_e,Option.map_some, *])⟩,⟨by dsimp only;omega,fun i hi hl=>by simp (disch:=omega) only [hg_ne,hgs_ne]⟩⟩
  ·obtain ⟨v,h',nx'⟩:=r
   rw [loadG_run] at hr
   cases hh:hasL (nodesT t) with
   |false =>
    rw [hh,if_neg (by decide)] at hr
    obtain ⟨rfl,⟨p1,p2,p3⟩,hf⟩:=hr
    dsimp only at p1 p2 p3
    refine ⟨rfl,?_⟩
    simp (disch:=first | exact d_V2p | fail) only [unf k25_2.eq_1,c25,p1,p2,p3,hgs_ne,hgx_e,Option.map_some,EVS,Nat.reduceAdd,Nat.reduceSub,Int.reduceToNat,Nat.reduceMul,Nat.reduceEqDiff,Nat.reduceLeDiff,Int.reduceEq,Int.reduceLT,Int.reduceLE,↓reduceIte]
    simp [pureS,h,hh]
   |true =>
    rw [hh,if_pos rfl] at hr
    obtain ⟨rfl,⟨p1,p2⟩,hf⟩:=hr
    dsimp only at p1 p2
    refine ⟨rfl,?_⟩
    simp (disch:=first | exact d_V2p | fail) only [c25,p1,p2,hgs_ne,EVS,Nat.reduceAdd,Nat.reduceSub,Int.reduceToNat,Nat.reduceMul,Nat.reduceEqDiff,Nat.reduceLeDiff,Int.reduceEq,Int.reduceLT,Int.reduceLE,↓reduceIte]
    simp [pureS,hh]
 ·simp (disch:=first | exact d_V2p | fail) only [c25,LAWSb,hc,h,EVS,Nat.reduceAdd,Nat.reduceSub,Int.reduceToNat,Nat.reduceMul,Nat.reduceEqDiff,Nat.reduceLeDiff,Int.reduceEq,Int.reduceLT,Int.reduceLE,↓reduceIte]
  simp [pureS,h]
theorem d_B1 {P:Prop} (h:P:=by first|omega|(simp only[EVL]<;>omega)|(simp only[hget_c,Nat.reduceEqDiff,↓reduceIte];done)|assumption|(simp (disch:=omega) only[hg_ne,hg_eq,hgs_ne, *];done)|(simp only [TL];done)|with_unfolding_all rfl):P:=h
theorem bcheck_loop (n:Nat) (h1:1 ≤ n) (h2:n ≤ 64) (e:Bool) (L:List Nat) (hL:∀ x ∈ L,x < 2 ^ n) (hl:L.length ≤ 10):∀ (k i:Nat),i + k=L.length →
  @Ok Out (runs T [.code b117_0,.inL (some 7) b117_0,.inB 0,.code k117_1] [(0,.int .i64 n),(10,.lst e (L.map fun x:Nat=>.int .u64 x)),(11,.int .i64 L.length),(12,.int .i64 i)] [] 7) ⟨fun x=>finV c117.res x=some (.int .i64 0)⟩:=by
 have hm:=mask_spec' n (by omega) (by omega)
 intro k
 induction k with
 |zero =>
  intro i hi
  have:¬ (i:Int) < L.length:=by omega
  simp (disch:=first | exact d_B1 | fail) only [unf b117_0.eq_1,unf k117_1.eq_1,c117,this,EVS,Nat.reduceAdd,Nat.reduceSub,Int.reduceToNat,Nat.reduceMul,Nat.reduceEqDiff,Nat.reduceLeDiff,Int.reduceEq,Int.reduceLT,Int.reduceLE,↓reduceIte]
 |succ k ih =>
  intro i hi
  have:(i:Int) < L.length:=by omega
  have hgd:(L.map fun x:Nat=>FV.int .u64 x).getD i .undef=.int .u64 ((L.getD i 0:Nat):Int):=by simp [List.getD,show i < L.length by omega]
  have hx:¬ ((2:Int) ^ n - 1) < ((L.getD i 0:Nat):Int):=by
   have h3:=hL _ (getD_mem (d:=0) (show i < L.length by omega))
   have h4:=pow_nat n
   omega
  have hd:decide (((2:Int) ^ n - 1) < ((L.getD i 0:Nat):Int))=false:=decide_eq_false hx
  have hp:pures (L.map fun x:Nat=>FV.int .u64 x)=true:=pures_map (fun _=>rfl) _
  have hlo:lows 7 (L.map fun x:Nat=>FV.int .u64 x)=true:=lows_map (fun _=>rfl) _
  have e1:(((n:Nat):Int)).toNat=n:=by omega
  rw [e1] at hm
  simp (disch:=first | exact d_B1 | fail) only [unf b117_0.eq_1,c117,this,hgd,hm,hd,EVS,Nat.reduceAdd,Nat.reduceSub,Int.reduceToNat,Nat.reduceMul,Nat.reduceEqDiff,Nat.reduceLeDiff,Int.reduceEq,Int.reduceLT,Int.reduceLE,↓reduceIte]
  exact Ok_inL (by decide) (by simp [lowTm,low,hlo]) (by simp [cutH,lowHeap]) (ih (i + 1) (by omega))
theorem bcheck_spec (n:Nat) (h1:1 ≤ n) (h2:n ≤ 64) (e:Bool) (L:List Nat) (hL:∀ x ∈ L,x < 2 ^ n) (hl:L.length ≤ 10) (h:Heap) (nx:Nat):isfR T c117 [.int .i64 n,.lst e (L.map fun x:Nat=>.int .u64 x)] h nx=some (.int .i64 0,h,nx):=by
 refine isfR_of rfl ?_
 have hw:decide ((1:Int) ≤ n∧(n:Int) ≤ 64)=true:=decide_eq_true (by omega)
 simp (disch:=first | exact d_B1 | fail) only [c117,wideB_spec,hw,EVS,Nat.reduceAdd,Nat.reduceSub,Int.reduceToNat,Nat.reduceMul,Nat.reduceEqDiff,Nat.reduceLeDiff,Int.reduceEq,Int.reduceLT,Int.reduceLE,↓reduceIte]
 exact bcheck_loop n h1 h2 e L hL hl L.length 0 (by omega)
theorem bcheck_lim (a b:FV) (h:Heap) (nx:Nat):lim T 117 [a,b] h nx=@FI.B (List FV) (FV × Heap × Nat) (frzs h deep [a,b]) ⟨fun q=>isfR T c117 q h nx⟩:=lim_isf tg117 rfl rfl
theorem bcheck1 (n a:Nat) (h1:1 ≤ n) (h2:n ≤ 64) (ha:a < 2 ^ n) (e:Bool) (h:Heap) (nx:Nat):isfR T c117 [.int .i64 n,.lst e [.int .u64 a]] h nx=some (.int .i64 0,h,nx):=bcheck_spec n h1 h2 e [a] (by simpa using ha) (by simp) h nx
theorem bcheck2 (n a b:Nat) (h1:1 ≤ n) (h2:n ≤ 64) (ha:a < 2 ^ n) (hb:b < 2 ^ n) (e:Bool) (h:Heap) (nx:Nat):isfR T c117 [.int .i64 n,.lst e [.int .u64 a,.int .u64 b]] h nx=some (.int .i64 0,h,nx):=bcheck_spec n h1 h2 e [a,b] (by simp [ha,hb]) (by simp) h nx
theorem signed_spec (n a:Nat) (h1:1 ≤ n) (h2:n ≤ 64) (ha:a < 2 ^ n):∀ h nx,lim T 118 [.int .i64 n,.int .u64 a] h nx=some (.int .i64 (toI n a),h,nx):=by
 have hx:=X_sgn h1 h2 ha
 refine lim_iso tg118 rfl rfl rfl ?_
 simp (disch:=first | exact d_B1 | fail) only [c118,hx,EVS,Nat.reduceAdd,Nat.reduceSub,Int.reduceToNat,Nat.reduceMul,Nat.reduceEqDiff,Nat.reduceLeDiff,Int.reduceEq,Int.reduceLT,Int.reduceLE,↓reduceIte]
theorem few_spec (b:Nat):∀ h nx,lim T 171 [.int .u64 b] h nx=some (.int .u64 (min (b:Int) 64),h,nx):=by
 refine lim_iso tg171 rfl rfl rfl ?_
 simp (disch:=first | exact d_B1 | fail) only [c171,EVS,Nat.reduceAdd,Nat.reduceSub,Int.reduceToNat,Nat.reduceMul,Nat.reduceEqDiff,Nat.reduceLeDiff,Int.reduceEq,Int.reduceLT,Int.reduceLE,↓reduceIte]
theorem one_spec (c:Bool):∀ h nx,lim T 177 [.bool c] h nx=some (.int .u64 (if c=true then 1 else 0),h,nx):=by
 refine lim_iso tg177 rfl rfl rfl ?_
 cases c<;>simp (disch:=first | exact d_B1 | fail) only [c177,EVS,Nat.reduceAdd,Nat.reduceSub,Int.reduceToNat,Nat.reduceMul,Nat.reduceEqDiff,Nat.reduceLeDiff,Int.reduceEq,Int.reduceLT,Int.reduceLE,↓reduceIte]
theorem d_B2 {P:Prop} (h:P:=by first|omega|(simp only[EVL]<;>omega)|(simp only[hget_c,Nat.reduceEqDiff,↓reduceIte];done)|assumption|(simp (disch:=omega) only[hg_ne,hg_eq,hgs_ne, *];done)|(simp only [TL];done)|with_unfolding_all rfl):P:=h
section
variable (n a b:Nat) (w:FV)
theorem op1_spec:∀ h nx,lim T 164 [.int .i64 n,.int .u64 a,.int .u64 b] h nx=some (.int .u64 (IntKind.u64.wrap ((a:Int) + b)),h,nx):=by
 refine lim_iso tg164 rfl rfl rfl ?_
 simp (disch:=first | exact d_B2 | fail) only [c164,EVS,Nat.reduceAdd,Nat.reduceSub,Int.reduceToNat,Nat.reduceMul,Nat.reduceEqDiff,Nat.reduceLeDiff,Int.reduceEq,Int.reduceLT,Int.reduceLE,↓reduceIte]
theorem op2_spec:∀ h nx,lim T 165 [.int .i64 n,.int .u64 a,.int .u64 b] h nx=some (.int .u64 (IntKind.u64.wrap ((a:Int) - b)),h,nx):=by
 refine lim_iso tg165 rfl rfl rfl ?_
 simp (disch:=first | exact d_B2 | fail) only [c165,EVS,Nat.reduceAdd,Nat.reduceSub,Int.reduceToNat,Nat.reduceMul,Nat.reduceEqDiff,Nat.reduceLeDiff,Int.reduceEq,Int.reduceLT,Int.reduceLE,↓reduceIte]
theorem op3_spec:∀ h nx,lim T 166 [.int .i64 n,.int .u64 a,.int .u64 b] h nx=some (.int .u64 (IntKind.u64.wrap ((a:Int) * b)),h,nx):=by
 refine lim_iso tg166 rfl rfl rfl ?_
 simp (disch:=first | exact d_B2 | fail) only [c166,EVS,Nat.reduceAdd,Nat.reduceSub,Int.reduceToNat,Nat.reduceMul,Nat.reduceEqDiff,Nat.reduceLeDiff,Int.reduceEq,Int.reduceLT,Int.reduceLE,↓reduceIte]
theorem op4_spec:∀ h nx,lim T 167 [.int .i64 n,.int .u64 a,.int .u64 b] h nx=some (.int .u64 (band .u64 a b),h,nx):=by
 refine lim_iso tg167 rfl rfl rfl ?_
 simp (disch:=first | exact d_B2 | fail) only [c167,EVS,Nat.reduceAdd,Nat.reduceSub,Int.reduceToNat,Nat.reduceMul,Nat.reduceEqDiff,Nat.reduceLeDiff,Int.reduceEq,Int.reduceLT,Int.reduceLE,↓reduceIte]
theorem op5_spec:∀ h nx,lim T 168 [.int .i64 n,.int .u64 a,.int .u64 b] h nx=some (.int .u64 (bor .u64 a b),h,nx):=by
 refine lim_iso tg168 rfl rfl rfl ?_
 simp (disch:=first | exact d_B2 | fail) only [c168,EVS,Nat.reduceAdd,Nat.reduceSub,Int.reduceToNat,Nat.reduceMul,Nat.reduceEqDiff,Nat.reduceLeDiff,Int.reduceEq,Int.reduceLT,Int.reduceLE,↓reduceIte]
theorem op6_spec:∀ h nx,lim T 169 [.int .i64 n,.int .u64 a,.int .u64 b] h nx=some (.int .u64 (bxor .u64 a b),h,nx):=by
 refine lim_iso tg169 rfl rfl rfl ?_
 simp (disch:=first | exact d_B2 | fail) only [c169,EVS,Nat.reduceAdd,Nat.reduceSub,Int.reduceToNat,Nat.reduceMul,Nat.reduceEqDiff,Nat.reduceLeDiff,Int.reduceEq,Int.reduceLT,Int.reduceLE,↓reduceIte]
theorem op7_spec:∀ h nx,lim T 170 [.int .i64 n,.int .u64 a,.int .u64 b] h nx=some (.int .u64 (shl .u64 a (min (b:Int) 64)),h,nx):=by
 refine lim_iso tg170 rfl rfl rfl ?_
 simp (disch:=first | exact d_B2 | fail) only [c170,few_spec,EVS,Nat.reduceAdd,Nat.reduceSub,Int.reduceToNat,Nat.reduceMul,Nat.reduceEqDiff,Nat.reduceLeDiff,Int.reduceEq,Int.reduceLT,Int.reduceLE,↓reduceIte]
theorem op8_spec:∀ h nx,lim T 172 [.int .i64 n,.int .u64 a,.int .u64 b] h nx=some (.int .u64 (shr .u64 a (min (b:Int) 64)),h,nx):=by
 refine lim_iso tg172 rfl rfl rfl ?_
 simp (disch:=first | exact d_B2 | fail) only [c172,few_spec,EVS,Nat.reduceAdd,Nat.reduceSub,Int.reduceToNat,Nat.reduceMul,Nat.reduceEqDiff,Nat.reduceLeDiff,Int.reduceEq,Int.reduceLT,Int.reduceLE,↓reduceIte]
theorem op10_spec:∀ h nx,lim T 174 [.int .i64 n,.int .u64 a,.int .u64 b] h nx=some (.int .u64 (if b=0 then 18446744073709551615 else IntKind.u64.wrap ((a / b:Nat):Int)),h,nx):=by
 refine lim_iso tg174 rfl rfl rfl ?_
 by_cases hb:b=0
 ·subst hb
  have z:decide (((0:Nat):Int)=0)=true:=rfl
  simp (disch:=first | exact d_B2 | fail) only [c174,z,EVS,Nat.reduceAdd,Nat.reduceSub,Int.reduceToNat,Nat.reduceMul,Nat.reduceEqDiff,Nat.reduceLeDiff,Int.reduceEq,Int.reduceLT,Int.reduceLE,↓reduceIte]
 ·have z:decide ((b:Int)=0)=false:=decide_eq_false (by omega)
  have z2:((b:Int)=0)=False:=eq_false (by omega)
  simp (disch:=first | exact d_B2 | fail) only [c174,z,EVS,Nat.reduceAdd,Nat.reduceSub,Int.reduceToNat,Nat.reduceMul,Nat.reduceEqDiff,Nat.reduceLeDiff,Int.reduceEq,Int.reduceLT,Int.reduceLE,↓reduceIte]
  rw [if_neg hb,Int.tdiv_eq_ediv_of_nonneg (by omega)];rfl
theorem op11_spec:∀ h nx,lim T 175 [.int .i64 n,.int .u64 a,.int .u64 b] h nx=some (.int .u64 (if b=0 then (a:Int) else ((a % b:Nat):Int)),h,nx):=by
 refine lim_iso tg175 rfl rfl rfl ?_
 by_cases hb:b=0
 ·subst hb
  have z:decide (((0:Nat):Int)=0)=true:=rfl
  simp (disch:=first | exact d_B2 | fail) only [c175,z,EVS,Nat.reduceAdd,Nat.reduceSub,Int.reduceToNat,Nat.reduceMul,Nat.reduceEqDiff,Nat.reduceLeDiff,Int.reduceEq,Int.reduceLT,Int.reduceLE,↓reduceIte]
 ·have z:decide ((b:Int)=0)=false:=decide_eq_false (by omega)
  simp (disch:=first | exact d_B2 | fail) only [c175,z,EVS,Nat.reduceAdd,Nat.reduceSub,Int.reduceToNat,Nat.reduceMul,Nat.reduceEqDiff,Nat.reduceLeDiff,Int.reduceEq,Int.reduceLT,Int.reduceLE,↓reduceIte]
  rw [if_neg hb,Int.tmod_eq_emod_of_nonneg (by omega)];rfl
theorem op12_spec:∀ h nx,lim T 176 [.int .i64 n,.int .u64 a,.int .u64 b] h nx=some (.int .u64 (if decide ((a:Int)=b)=true then 1 else 0),h,nx):=by
 refine lim_iso tg176 rfl rfl rfl ?_
 simp (disch:=first | exact d_B2 | fail) only [c176,one_spec,EVS,Nat.reduceAdd,Nat.reduceSub,Int.reduceToNat,Nat.reduceMul,Nat.reduceEqDiff,Nat.reduceLeDiff,Int.reduceEq,Int.reduceLT,Int.reduceLE,↓reduceIte]
theorem op13_spec:∀ h nx,lim T 178 [.int .i64 n,.int .u64 a,.int .u64 b] h nx=some (.int .u64 (if decide ((a:Int) < b)=true then 1 else 0),h,nx):=by
 refine lim_iso tg178 rfl rfl rfl ?_
 simp (disch:=first | exact d_B2 | fail) only [c178,one_spec,EVS,Nat.reduceAdd,Nat.reduceSub,Int.reduceToNat,Nat.reduceMul,Nat.reduceEqDiff,Nat.reduceLeDiff,Int.reduceEq,Int.reduceLT,Int.reduceLE,↓reduceIte]
variable {n a b}
theorem op9_spec (h1:1 ≤ n) (h2:n ≤ 64) (ha:a < 2 ^ n):∀ h nx,lim T 173 [.int .i64 n,.int .u64 a,.int .u64 b] h nx=some (.int .u64 (IntKind.u64.wrap (shr .i64 (toI n a) (min (b:Int) 64))),h,nx):=by
 refine lim_iso tg173 rfl rfl rfl ?_
 simp (disch:=first | exact d_B2 | fail) only [c173,few_spec,signed_spec n a h1 h2 ha,EVS,Nat.reduceAdd,Nat.reduceSub,Int.reduceToNat,Nat.reduceMul,Nat.reduceEqDiff,Nat.reduceLeDiff,Int.reduceEq,Int.reduceLT,Int.reduceLE,↓reduceIte]
theorem op14_spec (h1:1 ≤ n) (h2:n ≤ 64) (ha:a < 2 ^ n) (hb:b < 2 ^ n):∀ h nx,lim T 179 [.int .i64 n,.int .u64 a,.int .u64 b] h nx=some (.int .u64 (if decide (toI n a < toI n b)=true then 1 else 0),h,nx):=by
 refine lim_iso tg179 rfl rfl rfl ?_
 simp (disch:=first | exact d_B2 | fail) only [c179,one_spec,signed_spec n a h1 h2 ha,signed_spec n b h1 h2 hb,EVS,Nat.reduceAdd,Nat.reduceSub,Int.reduceToNat,Nat.reduceMul,Nat.reduceEqDiff,Nat.reduceLeDiff,Int.reduceEq,Int.reduceLT,Int.reduceLE,↓reduceIte]
end
theorem oper_at (k:Nat) (hk:k < 19):∀ h nx,lim T 121 [.int .u8 k] h nx=some (([.nilf,.nilf,.nilf,.nilf,.nilf,.fn 164 [],.fn 165 [],.fn 166 [],.fn 167 [],.fn 168 [],.fn 169 [],.fn 170 [],.fn 172 [],.fn 173 [],.fn 174 [],.fn 175 [],.fn 176 [],.fn 178 [],.fn 179 []]:List FV).getD k .undef,h,nx):=by
 have key:∀ k:Nat,k < 19→(match FI.call T 100 121 [.int .u8 k] [] 0 with | some (v,_,_)=>eqv v (([.nilf,.nilf,.nilf,.nilf,.nilf,.fn 164 [],.fn 165 [],.fn 166 [],.fn 167 [],.fn 168 [],.fn 169 [],.fn 170 [],.fn 172 [],.fn 173 [],.fn 174 [],.fn 175 [],.fn 176 [],.fn 178 [],.fn 179 []]:List FV).getD k .undef) | none=>false)=true:=by decide +kernel
 have:=key k hk
 split at this
 ·rename_i v h' nx' hc
  rw [← eqv_eq this]
  exact lim_iso_any tg121 rfl (le_lim T _ _ _ _ _ _ hc) (by decide)
 ·cases this
theorem binary_spec (k:Int) (n a b:Nat) (k1:5 ≤ k) (k2:k ≤ 18) (h1:1 ≤ n) (h2:n ≤ 64) (ha:a < 2 ^ n) (hb:b < 2 ^ n):∀ h nx,lim T 70 [.int .u8 k,.int .i64 n,.int .u64 a,.int .u64 b] h nx=some (.tup [.int .u64 (opN k n a b:Nat),.int .i64 0],h,nx):=by
 have hw:decide ((1:Int) ≤ n∧(n:Int) ≤ 64)=true:=decide_eq_true (by omega)
 have hm:=mask_spec' n (by omega) (by omega)
 rw [show ((n:Nat):Int).toNat=n by omega] at hm
 have hc:=fun e h nx=>bcheck2 n a b h1 h2 ha hb e h nx
 have key:∀ (f:Nat) (X:Int),(∀ h nx,lim T 121 [.int .u8 k] h nx=some (.fn f [],h,nx))→(∀ h nx,lim T f [.int .i64 n,.int .u64 a,.int .u64 b] h nx=some (.int .u64 X,h,nx))→band .u64 X (2 ^ n - 1)=(opN k n a b:Nat) →
   ∀ h nx,lim T 70 [.int .u8 k,.int .i64 n,.int .u64 a,.int .u64 b] h nx=some (.tup [.int .u64 (opN k n a b:Nat),.int .i64 0],h,nx):=by
  intro f X ho hf hx
  have d1:decide (k < 5)=false:=decide_eq_false (by omega)
  have d2:decide ((18:Int) < k)=false:=decide_eq_false (by omega)
  refine lim_iso tg70 rfl rfl rfl ?_
  simp (disch:=first | exact d_B2 | fail) only [c70,wideB_spec,hw,d1,d2,bcheck_lim,hc,ho,hf,hm,hx,EVS,Nat.reduceAdd,Nat.reduceSub,Int.reduceToNat,Nat.reduceMul,Nat.reduceEqDiff,Nat.reduceLeDiff,Int.reduceEq,Int.reduceLT,Int.reduceLE,↓reduceIte]
 have hk:k=5 ∨ k=6 ∨ k=7 ∨ k=8 ∨ k=9 ∨ k=10 ∨ k=11 ∨ k=12 ∨ k=13 ∨ k=14 ∨ k=15 ∨ k=16 ∨ k=17 ∨ k=18:=by omega
 rcases hk with rfl | rfl | rfl | rfl | rfl | rfl | rfl | rfl | rfl | rfl | rfl | rfl | rfl | rfl
 ·exact key _ _ (oper_at 5 (by decide)) (op1_spec n a b) (X_add (n:=n) (a:=a) (b:=b) h2)
 ·exact key _ _ (oper_at 6 (by decide)) (op2_spec n a b) (X_sub (n:=n) (a:=a) (b:=b) h2 hb)
 ·exact key _ _ (oper_at 7 (by decide)) (op3_spec n a b) (X_mul (n:=n) (a:=a) (b:=b) h2)
 ·exact key _ _ (oper_at 8 (by decide)) (op4_spec n a b) (X_and h2 ha hb)
 ·exact key _ _ (oper_at 9 (by decide)) (op5_spec n a b) (X_or h2 ha hb)
 ·exact key _ _ (oper_at 10 (by decide)) (op6_spec n a b) (X_xor h2 ha hb)
 ·exact key _ _ (oper_at 11 (by decide)) (op7_spec n a b) (X_shl (n:=n) (a:=a) (b:=b) h2)
 ·exact key _ _ (oper_at 12 (by decide)) (op8_spec n a b) (X_shr (n:=n) (a:=a) (b:=b) h2 ha)
 ·exact key _ _ (oper_at 13 (by decide)) (op9_spec h1 h2 ha) (X_sar (n:=n) (a:=a) (b:=b) h2)
 ·refine key _ _ (oper_at 14 (by decide)) (op10_spec n a b) ?_
  by_cases hz:b=0
  ·subst hz
   rw [if_pos rfl];exact X_div0 h2
  ·rw [if_neg hz,w64,Int.emod_eq_of_lt (Int.natCast_nonneg _) (by have:=lt64 h2 ha;have:=Nat.div_le_self a b;exact Int.ofNat_lt.2 (by omega:a / b < 18446744073709551616))]
   exact X_div h2 ha hz
 ·refine key _ _ (oper_at 15 (by decide)) (op11_spec n a b) ?_
  by_cases hz:b=0
  ·subst hz
   rw [if_pos rfl];exact X_rem0 h2 ha
  ·rw [if_neg hz];exact X_rem h2 ha hz
 ·refine key _ _ (oper_at 16 (by decide)) (op12_spec n a b) ?_
  rw [X_one h1 h2]
  have e:opN 16 n a b=if a=b then 1 else 0:=rfl
  rw [e]
  by_cases c:(a:Int)=b
  ·rw [if_pos (decide_eq_true c),if_pos (by omega)];rfl
  ·rw [if_neg (by simpa using c),if_neg (by omega)];rfl
 ·refine key _ _ (oper_at 17 (by decide)) (op13_spec n a b) ?_
  rw [X_one h1 h2]
  have e:opN 17 n a b=if a < b then 1 else 0:=rfl
  rw [e]
  by_cases c:(a:Int) < b
  ·rw [if_pos (decide_eq_true c),if_pos (by omega)];rfl
  ·rw [if_neg (by simpa using c),if_neg (by omega)];rfl
 ·refine key _ _ (oper_at 18 (by decide)) (op14_spec h1 h2 ha hb) ?_
  rw [X_one h1 h2]
  have e:opN 18 n a b=if toI n a < toI n b then 1 else 0:=rfl
  rw [e]
  by_cases c:toI n a < toI n b
  ·rw [if_pos (decide_eq_true c),if_pos (by omega)];rfl
  ·rw [if_neg (by simpa using c),if_neg (by omega)];rfl
theorem unary_spec (k:Int) (n a:Nat) (hk:k=3 ∨ k=4) (h1:1 ≤ n) (h2:n ≤ 64) (ha:a < 2 ^ n):∀ h nx,lim T 65 [.int .u8 k,.int .i64 n,.int .u64 a] h nx=some (.tup [.int .u64 (unN k n a:Nat),.int .i64 0],h,nx):=by
 have hw:decide ((1:Int) ≤ n∧(n:Int) ≤ 64)=true:=decide_eq_true (by omega)
 have hm:=mask_spec' n (by omega) (by omega)
 rw [show ((n:Nat):Int).toNat=n by omega] at hm
 have hc:=fun e h nx=>bcheck1 n a h1 h2 ha e h nx
 refine lim_iso tg65 rfl rfl rfl ?_
 rcases hk with rfl | rfl
 ·have hx:=X_not h2 ha
  simp (disch:=first | exact d_B2 | fail) only [c65,wideB_spec,hw,bcheck_lim,hc,hm,hx,EVS,Nat.reduceAdd,Nat.reduceSub,Int.reduceToNat,Nat.reduceMul,Nat.reduceEqDiff,Nat.reduceLeDiff,Int.reduceEq,Int.reduceLT,Int.reduceLE,↓reduceIte]
  rw [show (if IntKind.u64.signed=true then (-1:Int) else IntKind.u64.max)=18446744073709551615 from rfl,hx]
 ·have hx:=X_neg h2 ha
  simp (disch:=first | exact d_B2 | fail) only [c65,wideB_spec,hw,bcheck_lim,hc,hm,hx,EVS,Nat.reduceAdd,Nat.reduceSub,Int.reduceToNat,Nat.reduceMul,Nat.reduceEqDiff,Nat.reduceLeDiff,Int.reduceEq,Int.reduceLT,Int.reduceLE,↓reduceIte]
theorem extract_spec (n a lo m:Nat) (h1:1 ≤ n) (h2:n ≤ 64) (ha:a < 2 ^ n) (m1:1 ≤ m) (m2:lo + m ≤ n):∀ h nx,lim T 67 [.int .i64 n,.int .u64 a,.int .i64 lo,.int .i64 m] h nx=some (.tup [.int .u64 (a / 2 ^ lo % 2 ^ m:Nat),.int .i64 0],h,nx):=by
 have hm:=mask_spec' m (by omega) (by omega)
 rw [show ((m:Nat):Int).toNat=m by omega] at hm
 have hc:=fun e h nx=>bcheck1 n a h1 h2 ha e h nx
 have hl:=lt64 h2 ha
 have d1:decide ((lo:Int) < 0)=false:=decide_eq_false (by omega)
 have d2:decide ((m:Int) < 1)=false:=decide_eq_false (by omega)
 have d3:decide ((n:Int) < m)=false:=decide_eq_false (by omega)
 have d4:decide ((n:Int) - m < lo)=false:=decide_eq_false (by omega)
 have hs:=shr_nat (a:=(a:Int)) (n:=lo) (by omega) (by omega)
 have hx:band .u64 (((a:Int).toNat >>> lo:Nat):Int) (2 ^ m - 1)=(a / 2 ^ lo % 2 ^ m:Nat):=by
  rw [Int.toNat_natCast,Nat.shiftRight_eq_div_pow,fin_in (by omega) (Int.natCast_nonneg _) (Int.ofNat_lt.2 (by have:=Nat.div_le_self a (2 ^ lo);omega:a / 2 ^ lo < 18446744073709551616)),nat_mod]
 rw [Int.toNat_natCast] at hs hx
 refine lim_iso tg67 rfl rfl rfl ?_
 simp (disch:=first | exact d_B2 | fail) only [c67,bcheck_lim,hc,d1,d2,d3,d4,hs,hm,hx,EVS,Nat.reduceAdd,Nat.reduceSub,Int.reduceToNat,Nat.reduceMul,Nat.reduceEqDiff,Nat.reduceLeDiff,Int.reduceEq,Int.reduceLT,Int.reduceLE,↓reduceIte]
theorem concat_spec (n a m b:Nat) (h1:1 ≤ n) (m1:1 ≤ m) (h2:n + m ≤ 64) (ha:a < 2 ^ n) (hb:b < 2 ^ m):∀ h nx,lim T 66 [.int .i64 n,.int .u64 a,.int .i64 m,.int .u64 b] h nx=some (.tup [.int .u64 (a * 2 ^ m + b:Nat),.int .i64 0],h,nx):=by
 have hw1:decide ((1:Int) ≤ n∧(n:Int) ≤ 64)=true:=decide_eq_true (by omega)
 have hw2:decide ((1:Int) ≤ m∧(m:Int) ≤ 64)=true:=decide_eq_true (by omega)
 have hw3:decide ((1:Int) ≤ (n:Int) + m∧(n:Int) + m ≤ 64)=true:=decide_eq_true (by omega)
 have o1:okS n a:=⟨by omega,by omega,by rw [show ((n:Nat):Int).toNat=n by omega,← pow_nat];exact Int.ofNat_lt.2 ha⟩
 have o2:okS m b:=⟨by omega,by omega,by rw [show ((m:Nat):Int).toNat=m by omega,← pow_nat];exact Int.ofNat_lt.2 hb⟩
 have hab:a * 2 ^ m < 2 ^ (n + m):=by rw [Nat.pow_add];exact Nat.mul_lt_mul_of_pos_right ha (Nat.pow_pos (by decide))
 have h64:(2:Nat) ^ (n + m) ≤ 2 ^ 64:=Nat.pow_le_pow_right (by decide) h2
 have h64':(2:Nat) ^ 64=18446744073709551616:=rfl
 have hb64:b < 18446744073709551616:=lt64 (by omega) hb
 have hs:=shl_nat (a:=(a:Int)) (n:=m) (by omega) (by omega) (by rw [← pow_nat,← Int.natCast_mul];exact Int.ofNat_lt.2 (by omega:a * 2 ^ m < 18446744073709551616))
 rw [Int.toNat_natCast,Nat.shiftLeft_eq] at hs
 have hx:bor .u64 ((a * 2 ^ m:Nat):Int) b=((a * 2 ^ m + b:Nat):Int):=by
  rw [bor_nat (Int.natCast_nonneg _) (Int.ofNat_lt.2 (by omega:a * 2 ^ m < 18446744073709551616)) (by omega) (by omega),Int.toNat_natCast,Int.toNat_natCast,Nat.mul_comm,Nat.two_pow_add_eq_or_of_lt hb]
 refine lim_iso tg66 rfl rfl rfl ?_
 simp (disch:=first | exact d_B2 | fail) only [c66,wideB_spec,okB_spec,hw1,hw2,hw3,o1,o2,decide_true,hs,hx,EVS,Nat.reduceAdd,Nat.reduceSub,Int.reduceToNat,Nat.reduceMul,Nat.reduceEqDiff,Nat.reduceLeDiff,Int.reduceEq,Int.reduceLT,Int.reduceLE,↓reduceIte]
theorem extend_spec (s:Bool) (n a m:Nat) (h1:1 ≤ n) (h2:m ≤ 64) (hnm:n ≤ m) (ha:a < 2 ^ n):∀ h nx,lim T 68 [.int .i64 n,.int .u64 a,.int .i64 m,.bool s] h nx=some (.tup [.int .u64 (exN s n m a:Nat),.int .i64 0],h,nx):=by
 have hw1:decide ((1:Int) ≤ n∧(n:Int) ≤ 64)=true:=decide_eq_true (by omega)
 have hw2:decide ((1:Int) ≤ m∧(m:Int) ≤ 64)=true:=decide_eq_true (by omega)
 have d1:decide ((m:Int) < n)=false:=decide_eq_false (by omega)
 have hc:=fun e h nx=>bcheck1 n a h1 (by omega) ha e h nx
 have hm:=mask_spec' m (by omega) (by omega)
 rw [show ((m:Nat):Int).toNat=m by omega] at hm
 have hg:=signed_spec n a h1 (by omega) ha
 refine lim_iso tg68 rfl rfl rfl ?_
 cases s with
 |false =>
  have e:exN false n m a=a:=rfl
  rw [e]
  simp (disch:=first | exact d_B2 | fail) only [c68,wideB_spec,hw1,hw2,d1,bcheck_lim,hc,EVS,Nat.reduceAdd,Nat.reduceSub,Int.reduceToNat,Nat.reduceMul,Nat.reduceEqDiff,Nat.reduceLeDiff,Int.reduceEq,Int.reduceLT,Int.reduceLE,↓reduceIte]
 |true =>
  have hx:band .u64 (IntKind.u64.wrap (toI n a)) (2 ^ m - 1)=(exN true n m a:Nat):=by
   have e:exN true n m a=(toI n a % 2 ^ m).toNat:=rfl
   have hp:=pow_pos' m
   rw [fin_mod h2,e,Int.toNat_of_nonneg (Int.emod_nonneg _ (by omega))]
  simp (disch:=first | exact d_B2 | fail) only [c68,wideB_spec,hw1,hw2,d1,bcheck_lim,hc,hg,hm,hx,EVS,Nat.reduceAdd,Nat.reduceSub,Int.reduceToNat,Nat.reduceMul,Nat.reduceEqDiff,Nat.reduceLeDiff,Int.reduceEq,Int.reduceLT,Int.reduceLE,↓reduceIte]
def ldN (m:Mem) (a at_ w:Nat):Nat:=ldS m a at_ (w / 8)
theorem ldN_lt {m:Mem} (hm:okM m) (a at_ w:Nat) (hw:loadsS w):ldN m a at_ w < 2 ^ w:=by
 have:=ldS_lt hm a at_ (w / 8)
 rwa [show 8 * (w / 8)=w by unfold loadsS at hw;omega] at this
abbrev vM (ρ:List UInt8→Nat) (m:Mem) (t:Te):Nat:=valT ρ (ldN m) t
def boundR (ρ:List UInt8→Nat) (t:Te):Prop:=∀ x ∈ nodesT t,x.k=2→ρ x.s < 2 ^ x.w.toNat
theorem okS_nat {w b:Int} (h:okS w b) (h0:0 ≤ b):b.toNat < 2 ^ w.toNat:=by
 have h1:=h.2.2
 rw [← pow_nat] at h1
 omega
theorem mp0 {f:Te→Nat} {l:List Te} {i:Nat} (h:i < l.length):(l.map f).getD i 0=f (l.getD i default):=by simp [List.getD,h]
theorem mpw {l:List Te} {i:Nat} (h:i < l.length):(l.map Tm'.w).getD i 0=(l.getD i default).w:=by simp [List.getD,h]
theorem val_lt {ρ:List UInt8→Nat} {m:Mem} (hm:okM m) (t:Te) (hn:nodesOk t) (ht:TOk t) (hρ:boundR ρ t):vM ρ m t < 2 ^ t.w.toNat:=by
 induction t using Tm'.ind with
 |h t ih =>
 have hself:=(nodesOk_iff t).1 hn
 have hw:=(hself.1).1
 have hsub:∀ i,i < t.l.length→vM ρ m (t.l.getD i default) < 2 ^ (t.l.getD i default).w.toNat∧1 ≤ (t.l.getD i default).w∧(t.l.getD i default).w ≤ 64:=fun i hi=>by
  have hmem:=getD_mem (d:=(default:Te)) hi
  exact ⟨ih _ hmem (hself.2 _ hmem) (ht.sub hmem) (fun x hx=>hρ x (nodes_sub hmem hx)),(hself.2 _ hmem _ (mem_nodes _)).1⟩
 have hk:=ht.self.1
 have hb:=ht.self.2.2.1
 unfold vM at hsub ⊢
 rw [valT_eq]
 unfold vop
 by_cases k1:t.k=1
 ·rw [if_pos k1];exact okS_nat ((node_k1 k1).1 hself.1).2.2.2.2 hb.1
 rw [if_neg k1]
 by_cases k2:t.k=2
 ·rw [if_pos k2];exact hρ t (mem_nodes t) k2
 rw [if_neg k2]
 by_cases k3:t.k=3 ∨ t.k=4
 ·rw [if_pos k3]
  obtain ⟨_,_,_,_,hl,hs⟩:=(node_k34 k3).1 hself.1
  rw [mp0 (by omega),mpw (by omega)]
  have:=(hsub 0 (by omega)).1
  unfold subW at hs
  rw [hs] at this ⊢
  exact unN_lt this _
 rw [if_neg k3]
 by_cases k19:t.k=19
 ·rw [if_pos k19]
  obtain ⟨_,_,_,_,hl,hs0,hs1,hs2⟩:=(node_k19 k19).1 hself.1
  rw [mp0 (by omega),mp0 (by omega),mp0 (by omega)]
  have h1:=(hsub 1 (by omega)).1
  have h2:=(hsub 2 (by omega)).1
  unfold subW at hs1 hs2
  rw [hs1] at h1
  rw [hs2] at h2
  split
  ·exact h1
  ·exact h2
 rw [if_neg k19]
 by_cases k20:t.k=20
 ·rw [if_pos k20]
  obtain ⟨_,_,_,_,hl,hw0,hw1,hs⟩:=(node_k20 k20).1 hself.1
  rw [mp0 (by omega),mp0 (by omega),mpw (by omega)]
  have h0:=(hsub 0 (by omega)).1
  have h1:=(hsub 1 (by omega)).1
  unfold wideS at hw0 hw1
  unfold subW at hs hw0 hw1
  rw [show t.w.toNat=(t.l.getD 0 default).w.toNat + (t.l.getD 1 default).w.toNat by omega,Nat.pow_add]
  calc _ < valT ρ (ldN m) (t.l.getD 0 default) * 2 ^ (t.l.getD 1 default).w.toNat + 2 ^ (t.l.getD 1 default).w.toNat:=by omega
   _=(valT ρ (ldN m) (t.l.getD 0 default) + 1) * 2 ^ (t.l.getD 1 default).w.toNat:=by rw [Nat.add_mul,Nat.one_mul]
   _ ≤ _:=Nat.mul_le_mul_right _ h0
 rw [if_neg k20]
 by_cases k21:t.k=21
 ·rw [if_pos k21];exact Nat.mod_lt _ (Nat.pow_pos (by decide))
 rw [if_neg k21]
 by_cases k22:t.k=22 ∨ t.k=23
 ·rw [if_pos k22]
  obtain ⟨_,_,_,_,hl,hs⟩:=(node_k22 k22).1 hself.1
  rw [mp0 (by omega),mpw (by omega)]
  have h0:=hsub 0 (by omega)
  unfold subW at hs
  exact exN_lt (by omega) h0.1
 rw [if_neg k22]
 by_cases k24:t.k=24
 ·rw [if_pos k24]
  obtain ⟨_,_,_,_,hl,hs⟩:=(node_k24 k24).1 hself.1
  have hw':=hw
  unfold wideS at hw'
  exact ldN_lt hm _ _ _ (by rw [show ((t.w.toNat:Nat):Int)=t.w by omega];exact hs)
 rw [if_neg k24]
 have h24:1 ≤ t.k∧t.k ≤ 24:=by
  rcases Int.lt_or_le t.k 1 with h | h
  ·exact absurd hself.1 (node_no (.inl h))
  ·rcases Int.lt_or_le 24 t.k with h' | h'
   ·exact absurd hself.1 (node_no (.inr h'))
   ·exact ⟨h,h'⟩
 by_cases k5:t.k ≤ 15
 ·obtain ⟨_,_,_,_,hl,hs0,hs1⟩:=(node_k5 ⟨by omega,k5⟩).1 hself.1
  rw [mp0 (by omega),mp0 (by omega),mpw (by omega)]
  have h0:=hsub 0 (by omega)
  have h1:=hsub 1 (by omega)
  unfold subW at hs0 hs1
  rw [hs0] at h0 ⊢
  rw [hs1] at h1
  exact opN_lt (by omega) h0.1 h1.1 _
 ·have hk3:16 ≤ t.k∧t.k ≤ 18:=by omega
  obtain ⟨_,_,_,_,hl,hs0,hs1⟩:=(node_k16 hk3).1 hself.1
  rw [mp0 (by omega),mp0 (by omega),mpw (by omega),hs0]
  show opN t.k _ _ _ < 2
  have key:∀ c:Prop,[Decidable c]→(if c then 1 else 0) < 2:=fun c _=>by split<;>omega
  rcases (by omega:t.k=16 ∨ t.k=17 ∨ t.k=18) with e | e | e<;>rw [e]
  ·exact key _
  ·exact key _
  ·exact key _
theorem d_V6 {P:Prop} (h:P:=by first|omega|(simp only[EVL]<;>omega)|(simp only[hget_c,Nat.reduceEqDiff,↓reduceIte];done)|assumption|(simp (disch:=omega) only[hg_ne,hg_eq,hgs_ne, *];done)|(simp only [TL,LAWSm];done)|with_unfolding_all rfl):P:=h
def rhoU (E:EnvU) (s:List UInt8):Nat:=(lkU E s).getD 0
abbrev VR (h:Heap) (nx v:Nat) (r:FV × Heap × Nat):Prop:=r.1=.int .u64 v∧Ext h r.2.1 nx r.2.2
theorem value_loop (E:EnvU) (mid:Nat) (e:Bool) (m:Mem) (t:Te) (hl:t.l.length ≤ 3) (b0:Nat) (hmid:mid < b0) (h0:Heap) (h0m:hget h0 mid=some (.mp (E.map kvU)))
  (ih:∀ x ∈ t.l,∀ h nx,mid < nx→hget h mid=some (.mp (E.map kvU))→∃ r,lim T 41 [.agg [.int .u8 (x).k,.int .i64 (x).w,.int .u64 (x).b,.str (x).s,.int .i64 (x).lo,.lst (x).e ((x).l.map tV)],.map mid,.lst e (m.map ceV)] h nx=some r∧VR h nx (vM (rhoU E) m x) r) (Q:Post Out)
  (next:∀ (h:Heap) (nx:Nat) (cs:List FV) (x:Tm),cs.length=3→(∀ j,j < t.l.length→cs[j]? = some (.int .u64 (vM (rhoU E) m (t.l.getD j default):Nat)))→b0 + 9 ≤ nx→hget h b0=some (.row 6 [.agg [.int .u8 (t).k,.int .i64 (t).w,.int .u64 (t).b,.str (t).s,.int .i64 (t).lo,.lst (t).e ((t).l.map tV)]])→hget h (b0 + 8)=some (.row 3 [.agg cs])→(∀ j,j < b0→hget h j=hget h0 j) →
   @Ok Out (runs T [.code k41_1] ((1,.map mid)::(2,.lst e (m.map ceV))::(3,.ptr b0 1 0 0)::(7,.ptr (b0 + 8) 1 0 0)::x) h nx) Q) :
  ∀ (k i:Nat) (h:Heap) (nx:Nat) (cs:List FV),i + k=t.l.length→cs.length=3→(∀ j,j < i→cs[j]? = some (.int .u64 (vM (rhoU E) m (t.l.getD j default):Nat)))→(∀ v ∈ cs,v.one=true)→b0 + 9 ≤ nx→hget h b0=some (.row 6 [.agg [.int .u8 (t).k,.int .i64 (t).w,.int .u64 (t).b,.str (t).s,.int .i64 (t).lo,.lst (t).e ((t).l.map tV)]])→hget h (b0 + 8)=some (.row 3 [.agg cs])→(∀ j,j < b0→hget h j=hget h0 j) →
  @Ok Out (runs T [.code b41_0,.inL none b41_0,.inB 1,.code k41_1] [(1,.map mid),(2,.lst e (m.map ceV)),(3,.ptr b0 1 0 0),(7,.ptr (b0 + 8) 1 0 0),(25,.lst t.e (t.l.map tV)),(26,.int .i64 t.l.length),(27,.int .i64 i)] h nx) Q:=by
 intro k
 induction k with
 |zero =>
  intro i h nx cs hi hc hv ho hn q1 q2 q3
  have d1:decide ((i:Int) < t.l.length)=false:=by simp;omega
  simp (disch:=first | exact d_V6 | fail) only [unf b41_0.eq_1,c41,d1,EVS,Nat.reduceAdd,Nat.reduceSub,Int.reduceToNat,Nat.reduceMul,Nat.reduceEqDiff,Nat.reduceLeDiff,Int.reduceEq,Int.reduceLT,Int.reduceLE,↓reduceIte]
  exact next _ _ cs _ hc (fun j hj=>hv j (by omega)) (by omega) q1 q2 q3
 |succ k ihk =>
  intro i h nx cs hi hc hv ho hn q1 q2 q3
  have d1:decide ((i:Int) < t.l.length)=true:=by simp;omega
  have hil:i < t.l.length:=by omega
  simp (disch:=first | exact d_V6 | fail) only [unf b41_0.eq_1,c41,d1,TL,Nat.add_assoc,EVS,Nat.reduceAdd,Nat.reduceSub,Int.reduceToNat,Nat.reduceMul,Nat.reduceEqDiff,Nat.reduceLeDiff,Int.reduceEq,Int.reduceLT,Int.reduceLE,↓reduceIte]
  refine Ok_call (ih _ (getD_mem (d:=default) hil) _ _ (by omega) ?_) fun r hr=>?_
  ·simp (disch:=omega) only [hg_ne];rw [q3 mid hmid];exact h0m
  obtain ⟨v,h',nx'⟩:=r
  obtain ⟨rfl,e1,e2⟩:=hr
  dsimp only at e1 e2
  refine ⟨rfl,?_⟩
  have f1:=(e2 (b0 + 8) (by omega)).trans ((by simp (disch:=omega) only [hg_ne]:_=hget h (b0 + 8)).trans q2)
  have f0:=(e2 b0 (by omega)).trans ((by simp (disch:=omega) only [hg_ne]:_=hget h b0).trans q1)
  have hi3:i < cs.length:=by omega
  have ei:(i:Int) + 1=((i + 1:Nat):Int):=by omega
  have hsp:List.take (i * 1) cs ++ [FV.int .u64 (vM (rhoU E) m (t.l.getD i default):Nat)] ++ List.drop (i * 1 + 1) cs=cs.set i (.int .u64 (vM (rhoU E) m (t.l.getD i default):Nat)):=by
   rw [Nat.mul_one,List.set_eq_take_append_cons_drop,if_pos hi3];simp
  simp (disch:=first | exact d_V6 | fail) only [c41,TL,f1,hc,hsp,ei,EVS,Nat.reduceAdd,Nat.reduceSub,Int.reduceToNat,Nat.reduceMul,Nat.reduceEqDiff,Nat.reduceLeDiff,Int.reduceEq,Int.reduceLT,Int.reduceLE,↓reduceIte]
  refine Ok_inL0 (ihk (i + 1) _ _ (cs.set i (.int .u64 (vM (rhoU E) m (t.l.getD i default):Nat))) (by omega) (by rw [List.length_set];exact hc) (fun j hj=>?_) (fun v hv'=>?_) (by omega) ?_ (hgs_eq f1) (fun j hj=>?_))
  ·by_cases hji:j=i
   ·subst hji;rw [List.getElem?_set_self hi3]
   ·rw [List.getElem?_set_ne (by omega)];exact hv j (by omega)
  ·rcases (List.mem_or_eq_of_mem_set hv').symm with rfl | h
   ·rfl
   ·exact ho v h
  ·rw [hgs_ne (by omega)];exact f0
  ·rw [hgs_ne (by omega),e2 j (by omega)]
   exact (by simp (disch:=omega) only [hg_ne]:_=hget h j).trans (q3 j hj)
theorem value_spec (E:EnvU) (mid:Nat) (e:Bool) (m:Mem) (hm:okM m) (hms:memS m) (t:Te) (hn:nodesOk t) (ht:TOk t) (hρ:boundR (rhoU E) t):∀ h nx,mid < nx→hget h mid=some (.mp (E.map kvU)) →
  ∃ r,lim T 41 [.agg [.int .u8 (t).k,.int .i64 (t).w,.int .u64 (t).b,.str (t).s,.int .i64 (t).lo,.lst (t).e ((t).l.map tV)],.map mid,.lst e (m.map ceV)] h nx=some r∧VR h nx (vM (rhoU E) m t) r:=by
 induction t using Tm'.ind with
 |h t ih =>
 intro h nx hmid hget0
 have hself:=(nodesOk_iff t).1 hn
 have hb:=ht.self.2.2.1
 have hval:=valT_eq (rhoU E) (ldN m) t
 have hk24:1 ≤ t.k∧t.k ≤ 24:=by
  rcases Int.lt_or_le t.k 1 with h | h
  ·exact absurd hself.1 (node_no (.inl h))
  ·rcases Int.lt_or_le 24 t.k with h' | h'
   ·exact absurd hself.1 (node_no (.inr h'))
   ·exact ⟨h,h'⟩
 refine shr_ex tg41 rfl rfl ?_
 by_cases k1:t.k=1
 ·have hv:vM (rhoU E) m t=t.b.toNat:=by unfold vM;rw [hval,vop,if_pos k1]
  rw [hv]
  simp (disch:=first | exact d_V6 | fail) only [c41,k1,TL,EVS,Nat.reduceAdd,Nat.reduceSub,Int.reduceToNat,Nat.reduceMul,Nat.reduceEqDiff,Nat.reduceLeDiff,Int.reduceEq,Int.reduceLT,Int.reduceLE,↓reduceIte]
  exact ⟨by show FV.int .u64 t.b=.int .u64 ((t.b.toNat:Nat):Int);rw [Int.toNat_of_nonneg hb.1],by dsimp only;omega,fun i hi=>hg_ne (by omega)⟩
 by_cases k2:t.k=2
 ·have hv:vM (rhoU E) m t=rhoU E t.s:=by unfold vM;rw [hval,vop,if_neg k1,if_pos k2]
  rw [hv]
  have hf:=find_U t.s E
  unfold rhoU
  cases hlk:lkU E t.s with
  |none =>
   rw [hlk] at hf
   simp only [Option.map_none] at hf
   simp (disch:=first | exact d_V6 | fail) only [c41,k2,TL,hget0,hf,EVS,Nat.reduceAdd,Nat.reduceSub,Int.reduceToNat,Nat.reduceMul,Nat.reduceEqDiff,Nat.reduceLeDiff,Int.reduceEq,Int.reduceLT,Int.reduceLE,↓reduceIte]
   exact ⟨rfl,by dsimp only;omega,fun i hi=>hg_ne (by omega)⟩
  |some w =>
   rw [hlk] at hf
   simp only [Option.map_some] at hf
   simp (disch:=first | exact d_V6 | fail) only [c41,k2,TL,hget0,hf,EVS,Nat.reduceAdd,Nat.reduceSub,Int.reduceToNat,Nat.reduceMul,Nat.reduceEqDiff,Nat.reduceLeDiff,Int.reduceEq,Int.reduceLT,Int.reduceLE,↓reduceIte]
   exact ⟨rfl,by dsimp only;omega,fun i hi=>hg_ne (by omega)⟩
 have hp:t.l.length ≤ 3:=by
  have h2:=hself.1.2
  rw [if_pos (by omega)] at h2
  have:=h2.2.2.2.1
  unfold partsS at this
  (repeat' split at this)<;>omega
 have d1:decide (t.k=1)=false:=decide_eq_false k1
 have d2:decide (t.k=2)=false:=decide_eq_false k2
 have ih':∀ x ∈ t.l,∀ h nx,mid < nx→hget h mid=some (.mp (E.map kvU))→∃ r,lim T 41 [.agg [.int .u8 (x).k,.int .i64 (x).w,.int .u64 (x).b,.str (x).s,.int .i64 (x).lo,.lst (x).e ((x).l.map tV)],.map mid,.lst e (m.map ceV)] h nx=some r∧VR h nx (vM (rhoU E) m x) r:=fun x hx=>ih x hx (hself.2 x hx) (ht.sub hx) (fun y hy=>hρ y (nodes_sub hx hy))
 simp (disch:=first | exact d_V6 | fail) only [c41,d1,d2,TL,Nat.add_assoc,EVS,Nat.reduceAdd,Nat.reduceSub,Int.reduceToNat,Nat.reduceMul,Nat.reduceEqDiff,Nat.reduceLeDiff,Int.reduceEq,Int.reduceLT,Int.reduceLE,↓reduceIte]
 refine value_loop E mid e m t hp nx hmid h hget0 ih' _ (fun h' nx' cs x hc hv hnx q1 q2 q3=>?_) t.l.length 0 _ _ [.int .u64 0,.int .u64 0,.int .u64 0] (by omega) rfl (fun j hj=>by omega) (by simp [FV.one]) (by omega) ?_ ?_ (fun j hj=>by simp (disch:=omega) only [hg_ne])
 ·have hsub:∀ i,i < t.l.length→vM (rhoU E) m (t.l.getD i default) < 2 ^ (t.l.getD i default).w.toNat∧1 ≤ (t.l.getD i default).w∧(t.l.getD i default).w ≤ 64:=fun i hi=>by
   have hmem:=getD_mem (d:=(default:Te)) hi
   exact ⟨val_lt hm _ (hself.2 _ hmem) (ht.sub hmem) (fun x hx=>hρ x (nodes_sub hmem hx)),(hself.2 _ hmem _ (mem_nodes _)).1⟩
  have hw:=(hself.1).1
  have fin:∀ nx'',nx' ≤ nx''→Ext h h' nx nx'':=fun nx'' h2=>⟨by omega,fun i hi=>q3 i hi⟩
  have hvm:vM (rhoU E) m t=vop (ldN m) t.k t.w t.b t.lo (rhoU E t.s) (t.l.map Tm'.w) (t.l.map (vM (rhoU E) m)):=hval
  have fin2:∀ (X:Nat) (nx'':Nat),vM (rhoU E) m t=X→nx' ≤ nx''→VR h nx (vM (rhoU E) m t) (.int .u64 X,h',nx''):=fun X nx'' e1 h2=>⟨by rw [e1],fin nx'' h2⟩
  have z0:∀ i,i < t.l.length→(((t.l.getD i default).w.toNat:Nat):Int)=(t.l.getD i default).w:=fun i hi=>Int.toNat_of_nonneg (by have:=hsub i hi;omega)
  have zw:((t.w.toNat:Nat):Int)=t.w:=Int.toNat_of_nonneg (by unfold wideS at hw;omega)
  by_cases k3:t.k=3 ∨ t.k=4
  ·obtain ⟨_,_,_,_,hl,hs⟩:=(node_k34 k3).1 hself.1
   have w0:=hsub 0 (by omega)
   have c0:cellsAt cs none 0=_:=hv 0 (by omega)
   have hu:=unary_spec t.k (t.l.getD 0 default).w.toNat _ k3 (by omega) (by omega) w0.1
   rw [z0 0 (by omega)] at hu
   have hx:=hvm
   rw [vop,if_neg k1,if_neg k2,if_pos k3,mp0 (by omega),mpw (by omega)] at hx
   rcases k3 with k3 | k3
   ·rw [k3] at hu hx
    simp (disch:=first | exact d_V6 | fail) only [unf k41_1.eq_1,c41,TL,k3,q1,q2,c0,hu,EVS,Nat.reduceAdd,Nat.reduceSub,Int.reduceToNat,Nat.reduceMul,Nat.reduceEqDiff,Nat.reduceLeDiff,Int.reduceEq,Int.reduceLT,Int.reduceLE,↓reduceIte]
    refine fin2 _ _ hx ?_
    first | omega | (dsimp only;omega)
   ·rw [k3] at hu hx
    simp (disch:=first | exact d_V6 | fail) only [unf k41_1.eq_1,c41,TL,k3,q1,q2,c0,hu,EVS,Nat.reduceAdd,Nat.reduceSub,Int.reduceToNat,Nat.reduceMul,Nat.reduceEqDiff,Nat.reduceLeDiff,Int.reduceEq,Int.reduceLT,Int.reduceLE,↓reduceIte]
    refine fin2 _ _ hx ?_
    first | omega | (dsimp only;omega)
  by_cases k19:t.k=19
  ·obtain ⟨_,_,_,_,hl,hs,_,_⟩:=(node_k19 k19).1 hself.1
   have w0:=hsub 0 (by omega)
   have c0:cellsAt cs none 0=_:=hv 0 (by omega)
   have c1:cellsAt cs none 1=_:=hv 1 (by omega)
   have c2:cellsAt cs none 2=_:=hv 2 (by omega)
   have hx:=hvm
   rw [vop,if_neg k1,if_neg k2,if_neg k3,if_pos k19,mp0 (by omega),mp0 (by omega),mp0 (by omega)] at hx
   have ta:((2:Int) - ((0:Nat):Int)).toNat * 1=2:=rfl
   have tb:((2:Int) - ((1:Nat):Int)).toNat * 1=1:=rfl
   unfold subW at hs
   rw [hs] at w0
   have h01:vM (rhoU E) m (t.l.getD 0 default) < 2:=w0.1
   rcases (by omega:vM (rhoU E) m (t.l.getD 0 default)=0 ∨ vM (rhoU E) m (t.l.getD 0 default)=1) with e0 | e0
   ·rw [e0] at c0 hx
    rw [if_neg (by omega)] at hx
    simp (disch:=first | exact d_V6 | fail) only [unf k41_1.eq_1,c41,TL,k19,q1,q2,c0,c2,ta,EVS,Nat.reduceAdd,Nat.reduceSub,Int.reduceToNat,Nat.reduceMul,Nat.reduceEqDiff,Nat.reduceLeDiff,Int.reduceEq,Int.reduceLT,Int.reduceLE,↓reduceIte]
    refine fin2 _ _ hx ?_
    first | omega | (dsimp only;omega)
   ·rw [e0] at c0 hx
    rw [if_pos rfl] at hx
    simp (disch:=first | exact d_V6 | fail) only [unf k41_1.eq_1,c41,TL,k19,q1,q2,c0,c1,tb,EVS,Nat.reduceAdd,Nat.reduceSub,Int.reduceToNat,Nat.reduceMul,Nat.reduceEqDiff,Nat.reduceLeDiff,Int.reduceEq,Int.reduceLT,Int.reduceLE,↓reduceIte]
    refine fin2 _ _ hx ?_
    first | omega | (dsimp only;omega)
  by_cases k20:t.k=20
  ·obtain ⟨_,_,_,_,hl,hw0,hw1,hs⟩:=(node_k20 k20).1 hself.1
   have w0:=hsub 0 (by omega)
   have w1:=hsub 1 (by omega)
   have c0:cellsAt cs none 0=_:=hv 0 (by omega)
   have c1:cellsAt cs none 1=_:=hv 1 (by omega)
   unfold wideS at hw
   unfold subW at hs
   have hu:=concat_spec (t.l.getD 0 default).w.toNat _ (t.l.getD 1 default).w.toNat _ (by omega) (by omega) (by omega) w0.1 w1.1
   rw [z0 0 (by omega),z0 1 (by omega)] at hu
   have hx:=hvm
   rw [vop,if_neg k1,if_neg k2,if_neg k3,if_neg k19,if_pos k20,mp0 (by omega),mp0 (by omega),mpw (by omega)] at hx
   simp (disch:=first | exact d_V6 | fail) only [unf k41_1.eq_1,c41,TL,k20,q1,q2,c0,c1,hu,EVS,Nat.reduceAdd,Nat.reduceSub,Int.reduceToNat,Nat.reduceMul,Nat.reduceEqDiff,Nat.reduceLeDiff,Int.reduceEq,Int.reduceLT,Int.reduceLE,↓reduceIte]
   refine fin2 _ _ hx ?_
   first | omega | (dsimp only;omega)
  by_cases k21:t.k=21
  ·obtain ⟨_,_,_,_,hl,hlo,hw0,_,hs⟩:=(node_k21 k21).1 hself.1
   have w0:=hsub 0 (by omega)
   have c0:cellsAt cs none 0=_:=hv 0 (by omega)
   unfold wideS at hw
   unfold subW at hs
   have zl:((t.lo.toNat:Nat):Int)=t.lo:=Int.toNat_of_nonneg hlo
   have hu:=extract_spec (t.l.getD 0 default).w.toNat _ t.lo.toNat t.w.toNat (by omega) (by omega) w0.1 (by omega) (by omega)
   rw [z0 0 (by omega),zl,zw] at hu
   have hx:=hvm
   rw [vop,if_neg k1,if_neg k2,if_neg k3,if_neg k19,if_neg k20,if_pos k21,mp0 (by omega)] at hx
   simp (disch:=first | exact d_V6 | fail) only [unf k41_1.eq_1,c41,TL,k21,q1,q2,c0,hu,EVS,Nat.reduceAdd,Nat.reduceSub,Int.reduceToNat,Nat.reduceMul,Nat.reduceEqDiff,Nat.reduceLeDiff,Int.reduceEq,Int.reduceLT,Int.reduceLE,↓reduceIte]
   refine fin2 _ _ hx ?_
   first | omega | (dsimp only;omega)
  by_cases k22:t.k=22 ∨ t.k=23
  ·obtain ⟨_,_,_,_,hl,hs⟩:=(node_k22 k22).1 hself.1
   have w0:=hsub 0 (by omega)
   have c0:cellsAt cs none 0=_:=hv 0 (by omega)
   unfold wideS at hw
   unfold subW at hs
   have hu:=extend_spec (decide (t.k=23)) (t.l.getD 0 default).w.toNat _ t.w.toNat (by omega) (by omega) (by omega) w0.1
   rw [z0 0 (by omega),zw] at hu
   have hx:=hvm
   rw [vop,if_neg k1,if_neg k2,if_neg k3,if_neg k19,if_neg k20,if_neg k21,if_pos k22,mp0 (by omega),mpw (by omega)] at hx
   rcases k22 with k22 | k22
   ·rw [k22] at hu hx
    rw [show decide ((22:Int)=23)=false from rfl] at hu hx
    simp (disch:=first | exact d_V6 | fail) only [unf k41_1.eq_1,c41,TL,k22,q1,q2,c0,hu,EVS,Nat.reduceAdd,Nat.reduceSub,Int.reduceToNat,Nat.reduceMul,Nat.reduceEqDiff,Nat.reduceLeDiff,Int.reduceEq,Int.reduceLT,Int.reduceLE,↓reduceIte]
    refine fin2 _ _ hx ?_
    first | omega | (dsimp only;omega)
   ·rw [k22] at hu hx
    rw [show decide ((23:Int)=23)=true from rfl] at hu hx
    simp (disch:=first | exact d_V6 | fail) only [unf k41_1.eq_1,c41,TL,k22,q1,q2,c0,hu,EVS,Nat.reduceAdd,Nat.reduceSub,Int.reduceToNat,Nat.reduceMul,Nat.reduceEqDiff,Nat.reduceLeDiff,Int.reduceEq,Int.reduceLT,Int.reduceLE,↓reduceIte]
    refine fin2 _ _ hx ?_
    first | omega | (dsimp only;omega)
  by_cases k24:t.k=24
  ·obtain ⟨_,_,_,_,hl,hs⟩:=(node_k24 k24).1 hself.1
   have w0:=hsub 0 (by omega)
   have c0:cellsAt cs none 0=_:=hv 0 (by omega)
   unfold wideS at hw
   have h64:2 ^ (t.l.getD 0 default).w.toNat ≤ 2 ^ 64:=Nat.pow_le_pow_right (by decide) (by omega)
   have e64:(2:Nat) ^ 64=18446744073709551616:=rfl
   have hu:=loaded_spec e m (t.l.getD 0 default).w (vM (rhoU E) m (t.l.getD 0 default):Nat) t.w.toNat hms hm (by omega) (by omega) (by omega) (by omega) (by omega)
   rw [zw] at hu
   have hx:=hvm
   rw [vop,if_neg k1,if_neg k2,if_neg k3,if_neg k19,if_neg k20,if_neg k21,if_neg k22,if_pos k24,mp0 (by omega),mpw (by omega),ldN,z0 0 (by omega)] at hx
   simp (disch:=first | exact d_V6 | fail) only [unf k41_1.eq_1,c41,TL,k24,q1,q2,c0,hu,EVS,Nat.reduceAdd,Nat.reduceSub,Int.reduceToNat,Nat.reduceMul,Nat.reduceEqDiff,Nat.reduceLeDiff,Int.reduceEq,Int.reduceLT,Int.reduceLE,↓reduceIte]
   refine fin2 _ _ hx ?_
   first | omega | (dsimp only;omega)
  have e3:decide (t.k=3)=false:=decide_eq_false (fun e=>k3 (.inl e))
  have e4:decide (t.k=4)=false:=decide_eq_false (fun e=>k3 (.inr e))
  have e19:decide (t.k=19)=false:=decide_eq_false k19
  have e20:decide (t.k=20)=false:=decide_eq_false k20
  have e21:decide (t.k=21)=false:=decide_eq_false k21
  have e22:decide (t.k=22)=false:=decide_eq_false (fun e=>k22 (.inl e))
  have e23:decide (t.k=23)=false:=decide_eq_false (fun e=>k22 (.inr e))
  have e24:decide (t.k=24)=false:=decide_eq_false k24
  have hl2:t.l.length=2∧(t.l.getD 1 default).w=(t.l.getD 0 default).w:=by
   by_cases k5:t.k ≤ 15
   ·obtain ⟨_,_,_,_,hl,hs0,hs1⟩:=(node_k5 ⟨by omega,k5⟩).1 hself.1
    unfold subW at hs0 hs1
    exact ⟨hl,hs1.trans hs0.symm⟩
   ·obtain ⟨_,_,_,_,hl,_,hs1⟩:=(node_k16 (t:=t) (by omega)).1 hself.1
    unfold subW at hs1
    exact ⟨hl,hs1⟩
  have w0:=hsub 0 (by omega)
  have w1:=hsub 1 (by omega)
  have c0:cellsAt cs none 0=_:=hv 0 (by omega)
  have c1:cellsAt cs none 1=_:=hv 1 (by omega)
  rw [hl2.2] at w1
  have hu:=binary_spec t.k (t.l.getD 0 default).w.toNat _ _ (by omega) (by omega) (by omega) (by omega) w0.1 w1.1
  rw [z0 0 (by omega)] at hu
  have hx:=hvm
  rw [vop,if_neg k1,if_neg k2,if_neg k3,if_neg k19,if_neg k20,if_neg k21,if_neg k22,if_neg k24,mp0 (by omega),mp0 (by omega),mpw (by omega)] at hx
  simp (disch:=first | exact d_V6 | fail) only [unf k41_1.eq_1,c41,TL,e3,e4,e19,e20,e21,e22,e23,e24,q1,q2,c0,c1,hu,EVS,Nat.reduceAdd,Nat.reduceSub,Int.reduceToNat,Nat.reduceMul,Nat.reduceEqDiff,Nat.reduceLeDiff,Int.reduceEq,Int.reduceLT,Int.reduceLE,↓reduceIte]
  refine fin2 _ _ hx ?_
  first | omega | (dsimp only;omega)
 ·simp (disch:=omega) only [hg_ne,hg_eq]
 ·simp (disch:=omega) only [hg_ne,hg_eq]
theorem d_G3 {P:Prop} (h:P:=by first|omega|(simp only[EVL]<;>omega)|(simp only[hget_c,Nat.reduceEqDiff,↓reduceIte];done)|assumption|(simp (disch:=omega) only[hg_ne,hg_eq,hgs_ne, *];done)|(simp only [TL,LAWSm,EnL];done)|with_unfolding_all rfl):P:=h
abbrev PgB (env:Env) (r:FV):Prop:=∃ b,r=.bool b∧(b=false→env.length ≤ 1100)
theorem greatB_loop {e} (env:Env) (hl:env.length ≤ 1100):∀ (k i:Nat),i + k=env.length →
  @Ok Out (runs T [.code b18_0,.inL (some 10) b18_0,.inB 0,.code k18_1] [(0,.lst e (env.map bdV)),(5,.int .i64 i)] [] 10) ⟨fun x=>@Ok FV (resV c18.res x) ⟨PgB env⟩⟩:=by
 intro k
 induction k with
 |zero =>
  intro i hi
  have:¬ (i:Int) < env.length:=by omega
  simp (disch:=first | exact d_G3 | fail) only [unf b18_0.eq_1,unf k18_1.eq_1,c18,this,EnL,EVS,Nat.reduceAdd,Nat.reduceSub,Int.reduceToNat,Nat.reduceMul,Nat.reduceEqDiff,Nat.reduceLeDiff,Int.reduceEq,Int.reduceLT,Int.reduceLE,↓reduceIte]
  exact ⟨_,rfl,fun _=>hl⟩
 |succ k ih =>
  intro i hi
  have:(i:Int) < env.length:=by omega
  simp (disch:=first | exact d_G3 | fail) only [unf b18_0.eq_1,c18,this,EnL,EVS,Nat.reduceAdd,Nat.reduceSub,Int.reduceToNat,Nat.reduceMul,Nat.reduceEqDiff,Nat.reduceLeDiff,Int.reduceEq,Int.reduceLT,Int.reduceLE,↓reduceIte]
  repeat' (refine Ok_if (fun hb=>?_) (fun hb=>?_)<;>have h:=hb<;>(try simp only [decide_eq_true_eq,decide_eq_false_iff_not,Int.not_lt,Int.not_le] at h)<;>(simp (disch:=first | exact d_G3 | fail) only [hb,c18,EnL,EVS,Nat.reduceAdd,Nat.reduceSub,Int.reduceToNat,Nat.reduceMul,Nat.reduceEqDiff,Nat.reduceLeDiff,Int.reduceEq,Int.reduceLT,Int.reduceLE,↓reduceIte])<;>(try clear hb))
  ·exact ⟨_,rfl,fun e=>by cases e⟩
  ·exact Ok_inL (by decide) (by simp [lowTm,low,EnL]) (by simp [cutH,lowHeap]) (ih (i + 1) (by omega))
theorem greatB_spec {e d} (env:Env) (xs:List FV) (hp:pures xs=true) (h0:xs.length ≤ 9223372036854775807):∃ r,(∃ b,r=.bool b∧(b=false→env.length ≤ 1100∧xs.length ≤ 4200))∧∀ h nx,lim T 18 [.lst e (env.map bdV),.lst d xs] h nx=some (r,h,nx):=by
 refine lim_isoP tg18 rfl rfl (by simp [pures,pure_,pu_e,hp]) ?_
 simp (disch:=first | exact d_G3 | fail) only [c18,EnL,EVS,Nat.reduceAdd,Nat.reduceSub,Int.reduceToNat,Nat.reduceMul,Nat.reduceEqDiff,Nat.reduceLeDiff,Int.reduceEq,Int.reduceLT,Int.reduceLE,↓reduceIte]
 repeat' (refine Ok_if (fun hb=>?_) (fun hb=>?_)<;>have h:=hb<;>(try simp only [decide_eq_true_eq,decide_eq_false_iff_not,Int.not_lt,Int.not_le] at h)<;>(simp (disch:=first | exact d_G3 | fail) only [hb,c18,EVS,Nat.reduceAdd,Nat.reduceSub,Int.reduceToNat,Nat.reduceMul,Nat.reduceEqDiff,Nat.reduceLeDiff,Int.reduceEq,Int.reduceLT,Int.reduceLE,↓reduceIte])<;>(try clear hb))
 ·exact ⟨_,rfl,fun e=>by cases e⟩
 ·exact ⟨_,rfl,fun e=>by cases e⟩
 ·refine Ok_post (greatB_loop env (by omega) env.length 0 (by omega)) fun x v hv=>?_
  obtain ⟨b,rfl,hb⟩:=hv
  exact ⟨b,rfl,fun hf=>⟨hb hf,by omega⟩⟩
theorem lows_app' (b:Nat) (x y:List FV):lows b (x ++ y)=(lows b x && lows b y):=by
 induction x with
 |nil=>simp [lows]
 |cons v x ih=>simp [lows,ih,Bool.and_assoc]
theorem lo_tm (b:Nat) (l:List Te) (f:Te→Te) (i:Nat):lows b (((l.map f).take i).map tV)=true:=lo_Ts b _
theorem map_getD {α:Type} [Inhabited α] (f:α→Te) {l:List α} {i:Nat} (h:i < l.length):(l.map f).getD i default=f (l.getD i default):=by simp [List.getD,h]
theorem nodeS_er (x:Te):nodeS (er x) ↔ nodeS x:=by
 have hl:(x.l.map er).length=x.l.length:=List.length_map _
 have hg:∀ i,((x.l.map er).getD i default).w=(x.l.getD i default).w:=fun i=>by
  rcases Nat.lt_or_ge i x.l.length with h | h
  ·rw [map_getD er h,er_w]
  ·simp [List.getD,h]
 have hw:∀ w,allW (x.l.map er) w ↔ allW x.l w:=fun w=>by unfold allW;rw [hl];simp only [hg]
 unfold nodeS widthsS subW
 rw [er_w,er_k,er_b,er_s,er_lo,er_l,hl]
 rw [hg 0,hg 1,hg 2,hw]
theorem nodesOk_er (t:Te):nodesOk (er t) ↔ nodesOk t:=by
 unfold nodesOk
 rw [nodes_er]
 constructor
 ·intro h x hx;exact (nodeS_er x).1 (h _ (List.mem_map_of_mem hx))
 ·intro h x hx
  obtain ⟨y,hy,rfl⟩:=List.mem_map.1 hx
  exact (nodeS_er y).2 (h y hy)
theorem checkS_er (t:Te):checkS (er t)=checkS t:=by
 unfold checkS
 rw [size_er,depth_er,varsE_er]
 by_cases h:nodesOk t
 ·rw [if_pos ((nodesOk_er t).2 h),if_pos h]
 ·rw [if_neg (fun hh=>h ((nodesOk_er t).1 hh)),if_neg h]
theorem KOk_er {t:Te} (h:KOk t):KOk (er t):=fun x hx=>by
 rw [nodes_er] at hx
 obtain ⟨y,hy,rfl⟩:=List.mem_map.1 hx
 rw [er_k];exact h y hy
theorem d_R5b {P:Prop} (h:P:=by first|omega|(simp only[EVL]<;>omega)|(simp only[hget_c,Nat.reduceEqDiff,↓reduceIte];done)|assumption|(simp (disch:=omega) only[hg_ne,hg_eq,hgs_ne, *];done)|(simp only [LAWSb];done)|with_unfolding_all rfl):P:=h
abbrev RepS (n:List UInt8) (u x:Te):Prop:=∀ h nx,lim T 48 [.agg [.int .u8 (x).k,.int .i64 (x).w,.int .u64 (x).b,.str (x).s,.int .i64 (x).lo,.lst (x).e ((x).l.map tV)],.str n,.agg [.int .u8 (u).k,.int .i64 (u).w,.int .u64 (u).b,.str (u).s,.int .i64 (u).lo,.lst (u).e ((u).l.map tV)]] h nx=some (.agg [.int .u8 (putT n u x).k,.int .i64 (putT n u x).w,.int .u64 (putT n u x).b,.str (putT n u x).s,.int .i64 (putT n u x).lo,.lst (putT n u x).e ((putT n u x).l.map tV)],h,nx)
theorem replaced_loop (n:List UInt8) (u t:Te) (hm:¬ (t.k=2∧t.s=n)) (hl:t.l.length ≤ 1000000) (ih:∀ x ∈ t.l,RepS n u x):∀ (k i:Nat),i + k=t.l.length →
  @Ok Out (runs T [.code b48_0,.inL (some 17) b48_0,.inB 0,.code k48_1] [(1,.str n),(3,.ptr 0 1 0 0),(5,.ptr 1 1 0 0),(6,.ptr 2 1 0 0),(7,.sref 6 12 i 0 i),(21,.lst t.e (t.l.map tV)),(22,.int .i64 t.l.length),(23,.int .i64 i)]
   [(12,.row 6 (((t.l.map (putT n u)).take i).map tV)),(2,.row 6 [.agg [.int .u8 0,.int .i64 0,.int .u64 0,.str [],.int .i64 0,.lst true []]]),(1,.row 6 [.agg [.int .u8 (u).k,.int .i64 (u).w,.int .u64 (u).b,.str (u).s,.int .i64 (u).lo,.lst (u).e ((u).l.map tV)]]),(0,.row 6 [.agg [.int .u8 (t).k,.int .i64 (t).w,.int .u64 (t).b,.str (t).s,.int .i64 (t).lo,.lst (t).e ((t).l.map tV)]])] 17) ⟨fun x=>resV c48.res x=some (.agg [.int .u8 (putT n u t).k,.int .i64 (putT n u t).w,.int .u64 (putT n u t).b,.str (putT n u t).s,.int .i64 (putT n u t).lo,.lst (putT n u t).e ((putT n u t).l.map tV)])⟩:=by
 intro k
 induction k with
 |zero =>
  intro i hi
  have:¬ (i:Int) < t.l.length:=by omega
  have hil:i=t.l.length:=by omega
  subst hil
  have hlen:(((t.l.map (putT n u)).take t.l.length).map tV).length=t.l.length:=by simp
  simp (disch:=first | exact d_R5b | fail) only [unf b48_0.eq_1,unf k48_1.eq_1,c48,this,LAWSb,hlen,EVS,Nat.reduceAdd,Nat.reduceSub,Int.reduceToNat,Nat.reduceMul,Nat.reduceEqDiff,Nat.reduceLeDiff,Int.reduceEq,Int.reduceLT,Int.reduceLE,↓reduceIte]
  rw [putT_eq,if_neg hm]
  simp only [Tm'.k,Tm'.w,Tm'.b,Tm'.s,Tm'.lo,Tm'.e,Tm'.l]
 |succ k ihk =>
  intro i hi
  have:(i:Int) < t.l.length:=by omega
  have hx:=ih _ (getD_mem (d:=default) (show i < t.l.length by omega))
  have hlen:(((t.l.map (putT n u)).take i).map tV).length=i:=by simp;omega
  simp (disch:=first | exact d_R5b | fail) only [unf b48_0.eq_1,c48,this,LAWSb,hx,hlen,EVS,Nat.reduceAdd,Nat.reduceSub,Int.reduceToNat,Nat.reduceMul,Nat.reduceEqDiff,Nat.reduceLeDiff,Int.reduceEq,Int.reduceLT,Int.reduceLE,↓reduceIte]
  have hq:=ihk (i + 1) (by omega)
  rw [take_succ (by simp;omega),map_getD _ (by omega),List.map_append,List.map_cons,List.map_nil,tV_eq] at hq
  exact Ok_inL (by decide) (by simp [lowTm,low,lows,LAWSb]) (by simp [cutH,lowHeap,lowObj,lows,low,lows_app',LAWSb,lo_tm,-List.map_map,-List.map_take]) hq
theorem replaced_spec (n:List UInt8) (u t:Te) (hl:size t ≤ 1000000):RepS n u t:=by
 induction t using Tm'.ind with
 |h t ih =>
 have hsz:=sizes_len t.l
 have hse:=size_eq t
 refine lim_iso tg48 rfl rfl (by simp [pures,pure_,pu_Ts]) ?_
 by_cases hk:t.k=2
 ·by_cases hn:t.s=n
  ·have hn':(t.s == n)=true:=by simp [hn]
   rw [putT_eq,if_pos ⟨hk,hn⟩]
   simp (disch:=first | exact d_R5b | fail) only [c48,LAWSb,hk,hn',EVS,Nat.reduceAdd,Nat.reduceSub,Int.reduceToNat,Nat.reduceMul,Nat.reduceEqDiff,Nat.reduceLeDiff,Int.reduceEq,Int.reduceLT,Int.reduceLE,↓reduceIte]
  ·have hn':(t.s == n)=false:=by simp [hn]
   have lp:=replaced_loop n u t (fun h=>hn h.2) (by omega) (fun x hx=>ih x hx (by have:=size_mem hx;omega)) t.l.length 0 (by omega)
   rw [List.take_zero] at lp
   rw [hk] at lp
   simp (disch:=first | exact d_R5b | fail) only [c48,LAWSb,hk,hn',EVS,Nat.reduceAdd,Nat.reduceSub,Int.reduceToNat,Nat.reduceMul,Nat.reduceEqDiff,Nat.reduceLeDiff,Int.reduceEq,Int.reduceLT,Int.reduceLE,↓reduceIte]
   exact lp
 ·have lp:=replaced_loop n u t (fun h=>hk h.1) (by omega) (fun x hx=>ih x hx (by have:=size_mem hx;omega)) t.l.length 0 (by omega)
  rw [List.take_zero] at lp
  simp (disch:=first | exact d_R5b | fail) only [c48,LAWSb,hk,EVS,Nat.reduceAdd,Nat.reduceSub,Int.reduceToNat,Nat.reduceMul,Nat.reduceEqDiff,Nat.reduceLeDiff,Int.reduceEq,Int.reduceLT,Int.reduceLE,↓reduceIte]
  exact lp
abbrev grP (n:List UInt8) (m a:Int) (h:Heap):Prop:=hget h 8=some (.lp 0 0)∧hget h 1=some (.row 1 [.str n])∧hget h 2=some (.row 1 [.int .i64 m])∧hget h 4=some (.row 1 [.int .i64 (IntKind.i64.wrap a)])
theorem grown_spec (t:Te) (n:List UInt8) (m:Nat) (hm:1 ≤ m) (hm':m ≤ 1000000) (hl:size t ≤ 1000000):∀ h nx,lim T 47 [.agg [.int .u8 (t).k,.int .i64 (t).w,.int .u64 (t).b,.str (t).s,.int .i64 (t).lo,.lst (t).e ((t).l.map tV)],.str n,.int .i64 m] h nx=some (.int .i64 ((size t + occ n (nodesT t) * (m - 1):Nat):Int),h,nx):=by
 refine lim_iso tg47 rfl rfl (by simp [pures,pure_,pu_Ts]) ?_
 simp (disch:=first | exact d_R5b | fail) only [c47,nodes_spec,LAWSb,EVS,Nat.reduceAdd,Nat.reduceSub,Int.reduceToNat,Nat.reduceMul,Nat.reduceEqDiff,Nat.reduceLeDiff,Int.reduceEq,Int.reduceLT,Int.reduceLE,↓reduceIte]
 have hocc:=occ_le n (nodesT t)
 rw [nodesT_len] at hocc
 refine Ok_call1 (walk_spec 1004700 8 9 [.ptr 1 1 0 0,.ptr 2 1 0 0,.ptr 4 1 0 0] (grG n m) (grP n m) (fun (_:Empty) _=>True) (fun a h h' hp hk=>⟨(hk _ (by omega)).trans hp.1,(hk _ (by omega)).trans hp.2.1,(hk _ (by omega)).trans hp.2.2.1,(hk _ (by omega)).trans hp.2.2.2⟩) t hl ?_ 0 _ _ (by omega) ⟨rfl,rfl,rfl,rfl⟩) fun r hr=>?_
 ·intro x hx a h nx hb hp
  obtain ⟨p1,p2,p3,p4⟩:=hp
  rw [lim_round tg1004700 rfl rfl p1]
  show @Ok _ _ ⟨fun r=>ResR _ _ _ _ _ r _⟩
  simp only [r1004700]
  by_cases hk:x.k=2
  ·by_cases hn:x.s=n
   ·have hn':(x.s == n)=true:=by simp [hn]
    have hg:grG n m a x=.inl (a + ((m - 1) + 1)):=by simp [grG,hk,hn]
    rw [hg]
    have hw:∀ a:Int,IntKind.i64.wrap (IntKind.i64.wrap (IntKind.i64.wrap a + ((m:Int) - 1)) + 1)=IntKind.i64.wrap (a + (((m:Int) - 1) + 1)):=fun a=>by
     rw [wrap_add,Int.add_assoc,wrap_add]
    simp (disch:=first | exact d_R5b | fail) only [unf a47_1.eq_1,unf b47_0.eq_1,p1,p2,p3,p4,hgs_ne,hgs_eq p1,hgx_e,Option.map_some,hk,hn',EVS,Nat.reduceAdd,Nat.reduceSub,Int.reduceToNat,Nat.reduceMul,Nat.reduceEqDiff,Nat.reduceLeDiff,Int.reduceEq,Int.reduceLT,Int.reduceLE,↓reduceIte]
    exact ⟨rfl,⟨by (simp (disch:=omega) only [hg_ne,hg_eq,hgs_ne,hgx_e,Option.map_some, *]),by (simp (disch:=omega) only [hg_ne,hg_eq,hgs_ne,hgx_e,Option.map_some, *]),by (simp (disch:=omega) only [hg_ne,hg_eq,hgs_ne,hgx_e,Option.map_some, *]),by simp (disch:=omega) only [hg_ne,hg_eq,hgs_ne,hgx_e,Option.map_some,p4,hw]⟩,⟨by dsimp only;omega,fun i hi hl=>by simp (disch:=omega) only [hg_ne,hgs_ne]⟩⟩
   ·have hn':(x.s == n)=false:=by simp [hn]
    have hg:grG n m a x=.inl (a + (0 + 1)):=by simp [grG,hn]
    rw [hg]
    simp (disch:=first | exact d_R5b | fail) only [unf a47_1.eq_1,unf b47_0.eq_1,p1,p2,p3,p4,hgs_ne,hgs_eq p1,hgx_e,Option.map_some,hk,hn',wrap_add,EVS,Nat.reduceAdd,Nat.reduceSub,Int.reduceToNat,Nat.reduceMul,Nat.reduceEqDiff,Nat.reduceLeDiff,Int.reduceEq,Int.reduceLT,Int.reduceLE,↓reduceIte]
    exact ⟨rfl,⟨by (simp (disch:=omega) only [hg_ne,hg_eq,hgs_ne,hgx_e,Option.map_some, *]),by (simp (disch:=omega) only [hg_ne,hg_eq,hgs_ne,hgx_e,Option.map_some, *]),by (simp (disch:=omega) only [hg_ne,hg_eq,hgs_ne,hgx_e,Option.map_some, *]),by simp (disch:=omega) only [hg_ne,hg_eq,hgs_ne,hgx_e,Option.map_some,p4,Int.zero_add]⟩,⟨by dsimp only;omega,fun i hi hl=>by simp (disch:=omega) only [hg_ne,hgs_ne]⟩⟩
  ·have hg:grG n m a x=.inl (a + (0 + 1)):=by simp [grG,hk]
   rw [hg]
   simp (disch:=first | exact d_R5b | fail) only [unf a47_1.eq_1,unf b47_0.eq_1,p1,p2,p3,p4,hgs_ne,hgs_eq p1,hgx_e,Option.map_some,hk,wrap_add,EVS,Nat.reduceAdd,Nat.reduceSub,Int.reduceToNat,Nat.reduceMul,Nat.reduceEqDiff,Nat.reduceLeDiff,Int.reduceEq,Int.reduceLT,Int.reduceLE,↓reduceIte]
   exact ⟨rfl,⟨by (simp (disch:=omega) only [hg_ne,hg_eq,hgs_ne,hgx_e,Option.map_some, *]),by (simp (disch:=omega) only [hg_ne,hg_eq,hgs_ne,hgx_e,Option.map_some, *]),by (simp (disch:=omega) only [hg_ne,hg_eq,hgs_ne,hgx_e,Option.map_some, *]),by simp (disch:=omega) only [hg_ne,hg_eq,hgs_ne,hgx_e,Option.map_some,p4,Int.zero_add]⟩,⟨by dsimp only;omega,fun i hi hl=>by simp (disch:=omega) only [hg_ne,hgs_ne]⟩⟩
 ·rw [grG_run,nodesT_len] at hr
  obtain ⟨v,h',nx'⟩:=r
  obtain ⟨rfl,⟨p1,p2,p3,p4⟩,hf⟩:=hr
  dsimp only at p1 p2 p3 p4
  refine ⟨rfl,?_⟩
  have hmul:occ n (nodesT t) * (m - 1) ≤ 1000000 * 1000000:=Nat.mul_le_mul (by omega) (by omega)
  have e:(0:Int) + ((size t:Int) + (occ n (nodesT t):Int) * ((m:Int) - 1))=((size t + occ n (nodesT t) * (m - 1):Nat):Int):=by
   rw [Int.zero_add,Int.natCast_add,Int.natCast_mul,Int.natCast_sub hm];rfl
  rw [e,wrap64 (by omega) (by omega)] at p4
  simp (disch:=first | exact d_R5b | fail) only [unf k47_2.eq_1,c47,p1,p4,hgs_ne,EVS,Nat.reduceAdd,Nat.reduceSub,Int.reduceToNat,Nat.reduceMul,Nat.reduceEqDiff,Nat.reduceLeDiff,Int.reduceEq,Int.reduceLT,Int.reduceLE,↓reduceIte]
theorem d_Q5 {P:Prop} (h:P:=by first|omega|(simp only[EVL]<;>omega)|(simp only[hget_c,Nat.reduceEqDiff,↓reduceIte];done)|assumption|(simp (disch:=omega) only[hg_ne,hg_eq,hgs_ne, *];done)|(simp only [rb_len];done)|with_unfolding_all rfl):P:=h
theorem xor_spec (q:Nat) (x:Int) (h:Heap) (nx:Nat) (hs:hget h q=some (.row 1 [.int .u64 x])) :
  ∃ r,lim T 183 [.ptr q 1 0 0] h nx=some r∧(∃ y:Int,r.1=.int .u64 y∧hget r.2.1 q=some (.row 1 [.int .u64 y]))∧(∀ i,i ≠ q→hget r.2.1 i=hget h i)∧nx ≤ r.2.2:=by
 refine shr_ex tg183 rfl rfl ?_
 simp (disch:=first | exact d_Q5 | fail) only [c183,hs,SR,EVS,Nat.reduceAdd,Nat.reduceSub,Int.reduceToNat,Nat.reduceMul,Nat.reduceEqDiff,Nat.reduceLeDiff,Int.reduceEq,Int.reduceLT,Int.reduceLE,↓reduceIte]
 exact ⟨⟨_,rfl,rfl⟩,fun i hi=>hgs_ne (Ne.symm hi),by omega⟩
theorem d_Q6 {P:Prop} (h:P:=by first|omega|(simp only[EVL]<;>omega)|(simp only[hget_c,Nat.reduceEqDiff,↓reduceIte];done)|assumption|(simp (disch:=omega) only[hg_ne,hg_eq,hgs_ne, *];done)|(simp only [rb_len];done)|with_unfolding_all rfl):P:=h
theorem up0 (id n a:Nat) (d:Array Bd) (h:Heap) (ha:a < n) (hN:n ≤ 1000000) (hn:d.size=n) (hr:hget h id=some (rowB d)) (rest:List I) (Q:Post Out):∀ (k i j:Nat) (nx:Nat) (x:Tm),j < n→j + 1 - i ≤ k→i ≤ n + 1 →
  (∀ nx':Nat,nx ≤ nx'→@Ok Out (runs T (.code k132_9::rest) [(0,.sref 3 id n 0 n),(1,.int .i64 a),(4,.fn 46 []),(12,.int .i64 (Go.Sort.scanUp (fun x=>ltB x d[a]!) d j i:Nat)),(13,.int .i64 j),(47,.bool false)] h nx') Q) →
  @Ok Out (runs T (.code b132_0::.inL none b132_0::.inB 0::.code k132_9::rest) ((0,.sref 3 id n 0 n)::(1,.int .i64 a)::(4,.fn 46 [])::(12,.int .i64 i)::(13,.int .i64 j)::x) h nx) Q:=by
 have hr':=hr
 rw [row_of] at hr'
 intro k
 induction k with
 |zero =>
  intro i j nx x hj hk hi next
  have h1:decide (i ≤ j)=false:=by simp;omega
  rw [scanUp_o (by omega)] at next
  simp (disch:=first | exact d_Q6 | fail) only [unf b132_0.eq_1,c132,nle,h1,EVS,Nat.reduceAdd,Nat.reduceSub,Int.reduceToNat,Nat.reduceMul,Nat.reduceEqDiff,Nat.reduceLeDiff,Int.reduceEq,Int.reduceLT,Int.reduceLE,↓reduceIte]
  exact next _ (by omega)
 |succ k ih =>
  intro i j nx x hj hk hi next
  by_cases hc:i ≤ j
  ·have h1:decide (i ≤ j)=true:=by simp;omega
   cases hb:ltB d[i]! d[a]! with
   |true =>
    rw [scanUp_p hc (by simp [hb])] at next
    simp (disch:=first | exact d_Q6 | fail) only [unf b132_0.eq_1,c132,nle,na1,h1,cmp_spec,hr',SR,ltB_eq,hb,EVS,Nat.reduceAdd,Nat.reduceSub,Int.reduceToNat,Nat.reduceMul,Nat.reduceEqDiff,Nat.reduceLeDiff,Int.reduceEq,Int.reduceLT,Int.reduceLE,↓reduceIte]
    exact Ok_inL0 (ih (i + 1) j _ _ hj (by omega) (by omega) fun nx' h2=>next nx' (by omega))
   |false =>
    rw [scanUp_n (by simp [hb])] at next
    simp (disch:=first | exact d_Q6 | fail) only [unf b132_0.eq_1,c132,nle,h1,cmp_spec,hr',SR,ltB_eq,hb,EVS,Nat.reduceAdd,Nat.reduceSub,Int.reduceToNat,Nat.reduceMul,Nat.reduceEqDiff,Nat.reduceLeDiff,Int.reduceEq,Int.reduceLT,Int.reduceLE,↓reduceIte]
    exact next _ (by omega)
  ·have h1:decide (i ≤ j)=false:=by simp;omega
   rw [scanUp_o hc] at next
   simp (disch:=first | exact d_Q6 | fail) only [unf b132_0.eq_1,c132,nle,h1,EVS,Nat.reduceAdd,Nat.reduceSub,Int.reduceToNat,Nat.reduceMul,Nat.reduceEqDiff,Nat.reduceLeDiff,Int.reduceEq,Int.reduceLT,Int.reduceLE,↓reduceIte]
   exact next _ (by omega)
theorem dn0 (id n a:Nat) (d:Array Bd) (h:Heap) (ha:a < n) (hN:n ≤ 1000000) (hn:d.size=n) (hr:hget h id=some (rowB d)) (rest:List I) (Q:Post Out) (i:Nat) (hi1:1 ≤ i) (hi2:i ≤ n + 1):∀ (j:Nat) (nx:Nat) (x:Tm),j < n →
  (∀ nx':Nat,nx ≤ nx'→@Ok Out (runs T (.code k132_8::rest) [(0,.sref 3 id n 0 n),(1,.int .i64 a),(4,.fn 46 []),(12,.int .i64 i),(13,.int .i64 (Go.Sort.scanDown (fun x=>!ltB x d[a]!) d i j:Nat)),(66,.bool false)] h nx') Q) →
  @Ok Out (runs T (.code b132_1::.inL none b132_1::.inB 2::.code k132_8::rest) ((0,.sref 3 id n 0 n)::(1,.int .i64 a)::(4,.fn 46 [])::(12,.int .i64 i)::(13,.int .i64 j)::x) h nx) Q:=by
 have hr':=hr
 rw [row_of] at hr'
 intro j
 induction j with
 |zero =>
  intro nx x hj next
  have h1:decide ((i:Int) ≤ ((0:Nat):Int))=false:=by simp;omega
  rw [scanDown_o (by omega)] at next
  simp (disch:=first | exact d_Q6 | fail) only [unf b132_1.eq_1,c132,h1,EVS,Nat.reduceAdd,Nat.reduceSub,Int.reduceToNat,Nat.reduceMul,Nat.reduceEqDiff,Nat.reduceLeDiff,Int.reduceEq,Int.reduceLT,Int.reduceLE,↓reduceIte]
  exact next _ (by omega)
 |succ j ih =>
  intro nx x hj next
  have e1:((j + 1:Nat):Int) - 1=(j:Nat):=by omega
  by_cases hc:i ≤ j + 1
  ·have h1:decide ((i:Int) ≤ ((j + 1:Nat):Int))=true:=by simp;omega
   cases hb:ltB d[j + 1]! d[a]! with
   |false =>
    rw [scanDown_p hc (by simp [hb])] at next
    simp (disch:=first | exact d_Q6 | fail) only [unf b132_1.eq_1,c132,e1,h1,cmp_spec,hr',SR,ltB_eq,hb,EVS,Nat.reduceAdd,Nat.reduceSub,Int.reduceToNat,Nat.reduceMul,Nat.reduceEqDiff,Nat.reduceLeDiff,Int.reduceEq,Int.reduceLT,Int.reduceLE,↓reduceIte]
    exact Ok_inL0 (ih _ _ (by omega) fun nx' h2=>next nx' (by omega))
   |true =>
    rw [scanDown_n (by simp [hb])] at next
    simp (disch:=first | exact d_Q6 | fail) only [unf b132_1.eq_1,c132,h1,cmp_spec,hr',SR,ltB_eq,hb,EVS,Nat.reduceAdd,Nat.reduceSub,Int.reduceToNat,Nat.reduceMul,Nat.reduceEqDiff,Nat.reduceLeDiff,Int.reduceEq,Int.reduceLT,Int.reduceLE,↓reduceIte]
    exact next _ (by omega)
  ·have h1:decide ((i:Int) ≤ ((j + 1:Nat):Int))=false:=by simp;omega
   rw [scanDown_o hc] at next
   simp (disch:=first | exact d_Q6 | fail) only [unf b132_1.eq_1,c132,h1,EVS,Nat.reduceAdd,Nat.reduceSub,Int.reduceToNat,Nat.reduceMul,Nat.reduceEqDiff,Nat.reduceLeDiff,Int.reduceEq,Int.reduceLT,Int.reduceLE,↓reduceIte]
   exact next _ (by omega)
theorem up1 (id n a:Nat) (d:Array Bd) (h:Heap) (ha:a < n) (hN:n ≤ 1000000) (hn:d.size=n) (hr:hget h id=some (rowB d)) (rest:List I) (Q:Post Out):∀ (k i j:Nat) (nx:Nat) (x:Tm),j < n→j + 1 - i ≤ k→i ≤ n + 1 →
  (∀ nx':Nat,nx ≤ nx'→@Ok Out (runs T (.code k132_5::rest) [(0,.sref 3 id n 0 n),(1,.int .i64 a),(4,.fn 46 []),(12,.int .i64 (Go.Sort.scanUp (fun x=>ltB x d[a]!) d j i:Nat)),(13,.int .i64 j),(120,.bool false)] h nx') Q) →
  @Ok Out (runs T (.code b132_2::.inL none b132_2::.inB 6::.code k132_5::rest) ((0,.sref 3 id n 0 n)::(1,.int .i64 a)::(4,.fn 46 [])::(12,.int .i64 i)::(13,.int .i64 j)::x) h nx) Q:=by
 have hr':=hr
 rw [row_of] at hr'
 intro k
 induction k with
 |zero =>
  intro i j nx x hj hk hi next
  have h1:decide (i ≤ j)=false:=by simp;omega
  rw [scanUp_o (by omega)] at next
  simp (disch:=first | exact d_Q6 | fail) only [unf b132_2.eq_1,c132,nle,h1,EVS,Nat.reduceAdd,Nat.reduceSub,Int.reduceToNat,Nat.reduceMul,Nat.reduceEqDiff,Nat.reduceLeDiff,Int.reduceEq,Int.reduceLT,Int.reduceLE,↓reduceIte]
  exact next _ (by omega)
 |succ k ih =>
  intro i j nx x hj hk hi next
  by_cases hc:i ≤ j
  ·have h1:decide (i ≤ j)=true:=by simp;omega
   cases hb:ltB d[i]! d[a]! with
   |true =>
    rw [scanUp_p hc (by simp [hb])] at next
    simp (disch:=first | exact d_Q6 | fail) only [unf b132_2.eq_1,c132,nle,na1,h1,cmp_spec,hr',SR,ltB_eq,hb,EVS,Nat.reduceAdd,Nat.reduceSub,Int.reduceToNat,Nat.reduceMul,Nat.reduceEqDiff,Nat.reduceLeDiff,Int.reduceEq,Int.reduceLT,Int.reduceLE,↓reduceIte]
    exact Ok_inL0 (ih (i + 1) j _ _ hj (by omega) (by omega) fun nx' h2=>next nx' (by omega))
   |false =>
    rw [scanUp_n (by simp [hb])] at next
    simp (disch:=first | exact d_Q6 | fail) only [unf b132_2.eq_1,c132,nle,h1,cmp_spec,hr',SR,ltB_eq,hb,EVS,Nat.reduceAdd,Nat.reduceSub,Int.reduceToNat,Nat.reduceMul,Nat.reduceEqDiff,Nat.reduceLeDiff,Int.reduceEq,Int.reduceLT,Int.reduceLE,↓reduceIte]
    exact next _ (by omega)
  ·have h1:decide (i ≤ j)=false:=by simp;omega
   rw [scanUp_o hc] at next
   simp (disch:=first | exact d_Q6 | fail) only [unf b132_2.eq_1,c132,nle,h1,EVS,Nat.reduceAdd,Nat.reduceSub,Int.reduceToNat,Nat.reduceMul,Nat.reduceEqDiff,Nat.reduceLeDiff,Int.reduceEq,Int.reduceLT,Int.reduceLE,↓reduceIte]
   exact next _ (by omega)
theorem dn1 (id n a:Nat) (d:Array Bd) (h:Heap) (ha:a < n) (hN:n ≤ 1000000) (hn:d.size=n) (hr:hget h id=some (rowB d)) (rest:List I) (Q:Post Out) (i:Nat) (hi1:1 ≤ i) (hi2:i ≤ n + 1):∀ (j:Nat) (nx:Nat) (x:Tm),j < n →
  (∀ nx':Nat,nx ≤ nx'→@Ok Out (runs T (.code k132_4::rest) [(0,.sref 3 id n 0 n),(1,.int .i64 a),(4,.fn 46 []),(12,.int .i64 i),(13,.int .i64 (Go.Sort.scanDown (fun x=>!ltB x d[a]!) d i j:Nat)),(139,.bool false)] h nx') Q) →
  @Ok Out (runs T (.code b132_3::.inL none b132_3::.inB 8::.code k132_4::rest) ((0,.sref 3 id n 0 n)::(1,.int .i64 a)::(4,.fn 46 [])::(12,.int .i64 i)::(13,.int .i64 j)::x) h nx) Q:=by
 have hr':=hr
 rw [row_of] at hr'
 intro j
 induction j with
 |zero =>
  intro nx x hj next
  have h1:decide ((i:Int) ≤ ((0:Nat):Int))=false:=by simp;omega
  rw [scanDown_o (by omega)] at next
  simp (disch:=first | exact d_Q6 | fail) only [unf b132_3.eq_1,c132,h1,EVS,Nat.reduceAdd,Nat.reduceSub,Int.reduceToNat,Nat.reduceMul,Nat.reduceEqDiff,Nat.reduceLeDiff,Int.reduceEq,Int.reduceLT,Int.reduceLE,↓reduceIte]
  exact next _ (by omega)
 |succ j ih =>
  intro nx x hj next
  have e1:((j + 1:Nat):Int) - 1=(j:Nat):=by omega
  by_cases hc:i ≤ j + 1
  ·have h1:decide ((i:Int) ≤ ((j + 1:Nat):Int))=true:=by simp;omega
   cases hb:ltB d[j + 1]! d[a]! with
   |false =>
    rw [scanDown_p hc (by simp [hb])] at next
    simp (disch:=first | exact d_Q6 | fail) only [unf b132_3.eq_1,c132,e1,h1,cmp_spec,hr',SR,ltB_eq,hb,EVS,Nat.reduceAdd,Nat.reduceSub,Int.reduceToNat,Nat.reduceMul,Nat.reduceEqDiff,Nat.reduceLeDiff,Int.reduceEq,Int.reduceLT,Int.reduceLE,↓reduceIte]
    exact Ok_inL0 (ih _ _ (by omega) fun nx' h2=>next nx' (by omega))
   |true =>
    rw [scanDown_n (by simp [hb])] at next
    simp (disch:=first | exact d_Q6 | fail) only [unf b132_3.eq_1,c132,h1,cmp_spec,hr',SR,ltB_eq,hb,EVS,Nat.reduceAdd,Nat.reduceSub,Int.reduceToNat,Nat.reduceMul,Nat.reduceEqDiff,Nat.reduceLeDiff,Int.reduceEq,Int.reduceLT,Int.reduceLE,↓reduceIte]
    exact next _ (by omega)
  ·have h1:decide ((i:Int) ≤ ((j + 1:Nat):Int))=false:=by simp;omega
   rw [scanDown_o hc] at next
   simp (disch:=first | exact d_Q6 | fail) only [unf b132_3.eq_1,c132,h1,EVS,Nat.reduceAdd,Nat.reduceSub,Int.reduceToNat,Nat.reduceMul,Nat.reduceEqDiff,Nat.reduceLeDiff,Int.reduceEq,Int.reduceLT,Int.reduceLE,↓reduceIte]
   exact next _ (by omega)
theorem up2 (id n a:Nat) (d:Array Bd) (h:Heap) (ha:a < n) (hN:n ≤ 1000000) (hn:d.size=n) (hr:hget h id=some (rowB d)) (rest:List I) (Q:Post Out):∀ (k i j:Nat) (nx:Nat) (x:Tm),j < n→j + 1 - i ≤ k→i ≤ n + 1 →
  (∀ nx':Nat,nx ≤ nx'→@Ok Out (runs T (.code k131_3::rest) [(0,.sref 3 id n 0 n),(1,.int .i64 a),(4,.fn 46 []),(11,.int .i64 (Go.Sort.scanUp (fun x=>!ltB d[a]! x) d j i:Nat)),(12,.int .i64 j),(47,.bool false)] h nx') Q) →
  @Ok Out (runs T (.code b131_0::.inL none b131_0::.inB 2::.code k131_3::rest) ((0,.sref 3 id n 0 n)::(1,.int .i64 a)::(4,.fn 46 [])::(11,.int .i64 i)::(12,.int .i64 j)::x) h nx) Q:=by
 have hr':=hr
 rw [row_of] at hr'
 intro k
 induction k with
 |zero =>
  intro i j nx x hj hk hi next
  have h1:decide (i ≤ j)=false:=by simp;omega
  rw [scanUp_o (by omega)] at next
  simp (disch:=first | exact d_Q6 | fail) only [unf b131_0.eq_1,c131,nle,h1,EVS,Nat.reduceAdd,Nat.reduceSub,Int.reduceToNat,Nat.reduceMul,Nat.reduceEqDiff,Nat.reduceLeDiff,Int.reduceEq,Int.reduceLT,Int.reduceLE,↓reduceIte]
  exact next _ (by omega)
 |succ k ih =>
  intro i j nx x hj hk hi next
  by_cases hc:i ≤ j
  ·have h1:decide (i ≤ j)=true:=by simp;omega
   cases hb:ltB d[a]! d[i]! with
   |false =>
    rw [scanUp_p hc (by simp [hb])] at next
    simp (disch:=first | exact d_Q6 | fail) only [unf b131_0.eq_1,c131,nle,na1,h1,cmp_spec,hr',SR,ltB_eq,hb,EVS,Nat.reduceAdd,Nat.reduceSub,Int.reduceToNat,Nat.reduceMul,Nat.reduceEqDiff,Nat.reduceLeDiff,Int.reduceEq,Int.reduceLT,Int.reduceLE,↓reduceIte]
    exact Ok_inL0 (ih (i + 1) j _ _ hj (by omega) (by omega) fun nx' h2=>next nx' (by omega))
   |true =>
    rw [scanUp_n (by simp [hb])] at next
    simp (disch:=first | exact d_Q6 | fail) only [unf b131_0.eq_1,c131,nle,h1,cmp_spec,hr',SR,ltB_eq,hb,EVS,Nat.reduceAdd,Nat.reduceSub,Int.reduceToNat,Nat.reduceMul,Nat.reduceEqDiff,Nat.reduceLeDiff,Int.reduceEq,Int.reduceLT,Int.reduceLE,↓reduceIte]
    exact next _ (by omega)
  ·have h1:decide (i ≤ j)=false:=by simp;omega
   rw [scanUp_o hc] at next
   simp (disch:=first | exact d_Q6 | fail) only [unf b131_0.eq_1,c131,nle,h1,EVS,Nat.reduceAdd,Nat.reduceSub,Int.reduceToNat,Nat.reduceMul,Nat.reduceEqDiff,Nat.reduceLeDiff,Int.reduceEq,Int.reduceLT,Int.reduceLE,↓reduceIte]
   exact next _ (by omega)
theorem dn2 (id n a:Nat) (d:Array Bd) (h:Heap) (ha:a < n) (hN:n ≤ 1000000) (hn:d.size=n) (hr:hget h id=some (rowB d)) (rest:List I) (Q:Post Out) (i:Nat) (hi1:1 ≤ i) (hi2:i ≤ n + 1):∀ (j:Nat) (nx:Nat) (x:Tm),j < n →
  (∀ nx':Nat,nx ≤ nx'→@Ok Out (runs T (.code k131_2::rest) [(0,.sref 3 id n 0 n),(1,.int .i64 a),(4,.fn 46 []),(11,.int .i64 i),(12,.int .i64 (Go.Sort.scanDown (fun x=>ltB d[a]! x) d i j:Nat)),(65,.bool false)] h nx') Q) →
  @Ok Out (runs T (.code b131_1::.inL none b131_1::.inB 4::.code k131_2::rest) ((0,.sref 3 id n 0 n)::(1,.int .i64 a)::(4,.fn 46 [])::(11,.int .i64 i)::(12,.int .i64 j)::x) h nx) Q:=by
 have hr':=hr
 rw [row_of] at hr'
 intro j
 induction j with
 |zero =>
  intro nx x hj next
  have h1:decide ((i:Int) ≤ ((0:Nat):Int))=false:=by simp;omega
  rw [scanDown_o (by omega)] at next
  simp (disch:=first | exact d_Q6 | fail) only [unf b131_1.eq_1,c131,h1,EVS,Nat.reduceAdd,Nat.reduceSub,Int.reduceToNat,Nat.reduceMul,Nat.reduceEqDiff,Nat.reduceLeDiff,Int.reduceEq,Int.reduceLT,Int.reduceLE,↓reduceIte]
  exact next _ (by omega)
 |succ j ih =>
  intro nx x hj next
  have e1:((j + 1:Nat):Int) - 1=(j:Nat):=by omega
  by_cases hc:i ≤ j + 1
  ·have h1:decide ((i:Int) ≤ ((j + 1:Nat):Int))=true:=by simp;omega
   cases hb:ltB d[a]! d[j + 1]! with
   |true =>
    rw [scanDown_p hc (by simp [hb])] at next
    simp (disch:=first | exact d_Q6 | fail) only [unf b131_1.eq_1,c131,e1,h1,cmp_spec,hr',SR,ltB_eq,hb,EVS,Nat.reduceAdd,Nat.reduceSub,Int.reduceToNat,Nat.reduceMul,Nat.reduceEqDiff,Nat.reduceLeDiff,Int.reduceEq,Int.reduceLT,Int.reduceLE,↓reduceIte]
    exact Ok_inL0 (ih _ _ (by omega) fun nx' h2=>next nx' (by omega))
   |false =>
    rw [scanDown_n (by simp [hb])] at next
    simp (disch:=first | exact d_Q6 | fail) only [unf b131_1.eq_1,c131,h1,cmp_spec,hr',SR,ltB_eq,hb,EVS,Nat.reduceAdd,Nat.reduceSub,Int.reduceToNat,Nat.reduceMul,Nat.reduceEqDiff,Nat.reduceLeDiff,Int.reduceEq,Int.reduceLT,Int.reduceLE,↓reduceIte]
    exact next _ (by omega)
  ·have h1:decide ((i:Int) ≤ ((j + 1:Nat):Int))=false:=by simp;omega
   rw [scanDown_o hc] at next
   simp (disch:=first | exact d_Q6 | fail) only [unf b131_1.eq_1,c131,h1,EVS,Nat.reduceAdd,Nat.reduceSub,Int.reduceToNat,Nat.reduceMul,Nat.reduceEqDiff,Nat.reduceLeDiff,Int.reduceEq,Int.reduceLT,Int.reduceLE,↓reduceIte]
   exact next _ (by omega)
theorem d_Q7 {P:Prop} (h:P:=by first|omega|(simp only[EVL]<;>omega)|(simp only[hget_c,Nat.reduceEqDiff,↓reduceIte];done)|assumption|(simp (disch:=omega) only[hg_ne,hg_eq,hgs_ne, *];done)|(simp only [rb_len];done)|with_unfolding_all rfl):P:=h
theorem partLoop_size {a:Nat}:∀ (k i j:Nat) (d:Array Bd),j + 1 - i ≤ k→(Go.Sort.partLoop ltB a i j d).2.size=d.size:=by
 intro k
 induction k with
 |zero =>
  intro i j d hk
  rw [Go.Sort.partLoop_eq]
  split
  ·rfl
  ·rename_i h
   have:=Go.Sort.partLoop_guard ltB a i j d h
   omega
 |succ k ih =>
  intro i j d hk
  rw [Go.Sort.partLoop_eq]
  split
  ·rfl
  ·rename_i h
   have:=Go.Sort.partLoop_guard ltB a i j d h
   rw [ih _ _ _ (by omega),sz_swp]
theorem pl_loop (id n a:Nat) (ha:a < n) (hN:n ≤ 1000000) (Q:Post Out):∀ (k i j:Nat) (d:Array Bd) (h:Heap) (nx:Nat),j + 1 - i ≤ k→1 ≤ i→i ≤ n + 1→j < n→d.size=n→hget h id=some (rowB d) →
  (∀ (h':Heap) (nx':Nat) (iv:Int),nx ≤ nx'→RowR h id (Go.Sort.partLoop ltB a i j d).2 h'→(Go.Sort.partLoop ltB a i j d).1 < n→@Ok Out (runs T [.code k132_7] [(0,.sref 3 id n 0 n),(1,.int .i64 a),(4,.fn 46 []),(12,.int .i64 iv),(13,.int .i64 (Go.Sort.partLoop ltB a i j d).1),(144,.bool true)] h' nx') Q) →
  @Ok Out (runs T [.code b132_6,.inL none b132_6,.inB 4,.code k132_7] [(0,.sref 3 id n 0 n),(1,.int .i64 a),(4,.fn 46 []),(12,.int .i64 i),(13,.int .i64 j)] h nx) Q:=by
 intro k
 induction k with
 |zero =>
  intro i j d h nx hk hi1 hi2 hj hn hr next
  have g:=@Go.Sort.partLoop_eq _ _ ltB a i j d
  have g2:=Go.Sort.partLoop_guard ltB a i j d
  have u1:=Go.Sort.scanUp_ge (fun x=>ltB x d[a]!) d j i
  have u2:=@scanUp_le (fun x=>ltB x d[a]!) d j i
  generalize hI:Go.Sort.scanUp (fun x=>ltB x d[a]!) d j i=i2 at *
  have u3:=Go.Sort.scanDown_le (fun x=>!ltB x d[a]!) d i2 j
  generalize hJ:Go.Sort.scanDown (fun x=>!ltB x d[a]!) d i2 j=j2 at *
  have hgt:i2 > j2:=by
   rcases Nat.lt_or_ge j2 i2 with h | h
   ·exact h
   ·have:=g2 (by omega);omega
  rw [if_pos hgt] at g
  rw [g] at next
  have d1:decide ((j2:Int) < i2)=true:=by simp;omega
  simp (disch:=first | exact d_Q7 | fail) only [unf b132_6.eq_1,c132,EVS,Nat.reduceAdd,Nat.reduceSub,Int.reduceToNat,Nat.reduceMul,Nat.reduceEqDiff,Nat.reduceLeDiff,Int.reduceEq,Int.reduceLT,Int.reduceLE,↓reduceIte]
  refine up1 id n a d h ha hN hn hr _ _ (j + 1 - i) i j _ _ hj (Nat.le_refl _) hi2 fun nx1 hn1=>?_
  rw [hI]
  simp (disch:=first | exact d_Q7 | fail) only [unf k132_5.eq_1,c132,EVS,Nat.reduceAdd,Nat.reduceSub,Int.reduceToNat,Nat.reduceMul,Nat.reduceEqDiff,Nat.reduceLeDiff,Int.reduceEq,Int.reduceLT,Int.reduceLE,↓reduceIte]
  refine dn1 id n a d h ha hN hn hr _ _ i2 (by omega) (by omega) j _ _ hj fun nx2 hn2=>?_
  rw [hJ]
  simp (disch:=first | exact d_Q7 | fail) only [unf k132_4.eq_1,c132,nlt,w_xb,d1,EVS,Nat.reduceAdd,Nat.reduceSub,Int.reduceToNat,Nat.reduceMul,Nat.reduceEqDiff,Nat.reduceLeDiff,Int.reduceEq,Int.reduceLT,Int.reduceLE,↓reduceIte]
  exact next _ _ _ (by omega) (.refl hr) (by dsimp only;omega)
 |succ k ih =>
  intro i j d h nx hk hi1 hi2 hj hn hr next
  have g:=@Go.Sort.partLoop_eq _ _ ltB a i j d
  have g2:=Go.Sort.partLoop_guard ltB a i j d
  have u1:=Go.Sort.scanUp_ge (fun x=>ltB x d[a]!) d j i
  have u2:=@scanUp_le (fun x=>ltB x d[a]!) d j i
  generalize hI:Go.Sort.scanUp (fun x=>ltB x d[a]!) d j i=i2 at *
  have u3:=Go.Sort.scanDown_le (fun x=>!ltB x d[a]!) d i2 j
  generalize hJ:Go.Sort.scanDown (fun x=>!ltB x d[a]!) d i2 j=j2 at *
  by_cases hgt:i2 > j2
  ·rw [if_pos hgt] at g
   rw [g] at next
   have d1:decide ((j2:Int) < i2)=true:=by simp;omega
   simp (disch:=first | exact d_Q7 | fail) only [unf b132_6.eq_1,c132,EVS,Nat.reduceAdd,Nat.reduceSub,Int.reduceToNat,Nat.reduceMul,Nat.reduceEqDiff,Nat.reduceLeDiff,Int.reduceEq,Int.reduceLT,Int.reduceLE,↓reduceIte]
   refine up1 id n a d h ha hN hn hr _ _ (j + 1 - i) i j _ _ hj (Nat.le_refl _) hi2 fun nx1 hn1=>?_
   rw [hI]
   simp (disch:=first | exact d_Q7 | fail) only [unf k132_5.eq_1,c132,EVS,Nat.reduceAdd,Nat.reduceSub,Int.reduceToNat,Nat.reduceMul,Nat.reduceEqDiff,Nat.reduceLeDiff,Int.reduceEq,Int.reduceLT,Int.reduceLE,↓reduceIte]
   refine dn1 id n a d h ha hN hn hr _ _ i2 (by omega) (by omega) j _ _ hj fun nx2 hn2=>?_
   rw [hJ]
   simp (disch:=first | exact d_Q7 | fail) only [unf k132_4.eq_1,c132,nlt,w_xb,d1,EVS,Nat.reduceAdd,Nat.reduceSub,Int.reduceToNat,Nat.reduceMul,Nat.reduceEqDiff,Nat.reduceLeDiff,Int.reduceEq,Int.reduceLT,Int.reduceLE,↓reduceIte]
   exact next _ _ _ (by omega) (.refl hr) (by dsimp only;omega)
  ·rw [if_neg hgt] at g
   rw [g] at next
   have g3:=g2 hgt
   have d1:decide ((j2:Int) < i2)=false:=by simp;omega
   have e1:((i2:Nat):Int) + 1=((i2 + 1:Nat):Int):=by omega
   have e2:((j2:Nat):Int) - 1=((j2 - 1:Nat):Int):=by omega
   have hr':=hr
   rw [row_of] at hr'
   simp (disch:=first | exact d_Q7 | fail) only [unf b132_6.eq_1,c132,EVS,Nat.reduceAdd,Nat.reduceSub,Int.reduceToNat,Nat.reduceMul,Nat.reduceEqDiff,Nat.reduceLeDiff,Int.reduceEq,Int.reduceLT,Int.reduceLE,↓reduceIte]
   refine up1 id n a d h ha hN hn hr _ _ (j + 1 - i) i j _ _ hj (Nat.le_refl _) hi2 fun nx1 hn1=>?_
   rw [hI]
   simp (disch:=first | exact d_Q7 | fail) only [unf k132_5.eq_1,c132,EVS,Nat.reduceAdd,Nat.reduceSub,Int.reduceToNat,Nat.reduceMul,Nat.reduceEqDiff,Nat.reduceLeDiff,Int.reduceEq,Int.reduceLT,Int.reduceLE,↓reduceIte]
   refine dn1 id n a d h ha hN hn hr _ _ i2 (by omega) (by omega) j _ _ hj fun nx2 hn2=>?_
   rw [hJ]
   simp (disch:=first | exact d_Q7 | fail) only [unf k132_4.eq_1,c132,w_xb,d1,e1,e2,hr',SR,EVS,Nat.reduceAdd,Nat.reduceSub,Int.reduceToNat,Nat.reduceMul,Nat.reduceEqDiff,Nat.reduceLeDiff,Int.reduceEq,Int.reduceLT,Int.reduceLE,↓reduceIte]
   refine Ok_inL0 (ih (i2 + 1) (j2 - 1) (Go.Sort.swp d i2 j2) _ _ (by omega) (by omega) (by omega) (by omega) (by rw [sz_swp];exact hn) (hgs_eq hr) fun h' nx' iv hn' hx hb=>next _ _ _ (by omega) ((RowR.one hr).trans hx) hb)
theorem part_spec (id n a b p:Nat) (d:Array Bd) (hab:a + 1 < b) (hb:b ≤ n) (hp1:a ≤ p) (hp2:p < b) (hN:n ≤ 1000000) (hn:d.size=n) (h:Heap) (nx:Nat) (hr:hget h id=some (rowB d)) :
  ∃ r,lim T 132 [.sref 3 id n 0 n,.int .i64 a,.int .i64 b,.int .i64 p,.fn 46 []] h nx=some r∧r.1=.tup [.int .i64 (Go.Sort.partition ltB d a b p).1,.bool (Go.Sort.partition ltB d a b p).2.1]∧RowN id (Go.Sort.partition ltB d a b p).2.2 h nx r.2.1 r.2.2:=by
 refine shr_ex tg132 rfl rfl ?_
 have e1:(b:Int) - 1=((b - 1:Nat):Int):=by omega
 have e0:(a:Int) + 1=((a + 1:Nat):Int):=by omega
 have hr0:=hr
 rw [row_of] at hr0
 have hr1:RowR h id (Go.Sort.swp d a p) (hset h id (.row 3 ((Go.Sort.swp d a p).toList.map bS))):=RowR.one hr
 have hs1:(Go.Sort.swp d a p).size=n:=by rw [sz_swp];exact hn
 have gp:Go.Sort.partition ltB d a b p=(let i:=Go.Sort.scanUp (fun x=>ltB x (Go.Sort.swp d a p)[a]!) (Go.Sort.swp d a p) (b - 1) (a + 1);let j:=Go.Sort.scanDown (fun x=>!ltB x (Go.Sort.swp d a p)[a]!) (Go.Sort.swp d a p) i (b - 1);if i > j then (j,true,Go.Sort.swp (Go.Sort.swp d a p) j a) else
   (((Go.Sort.partLoop ltB a (i + 1) (j - 1) (Go.Sort.swp (Go.Sort.swp d a p) i j)).1,false,Go.Sort.swp (Go.Sort.partLoop ltB a (i + 1) (j - 1) (Go.Sort.swp (Go.Sort.swp d a p) i j)).2 (Go.Sort.partLoop ltB a (i + 1) (j - 1) (Go.Sort.swp (Go.Sort.swp d a p) i j)).1 a):Nat × Bool × Array Bd)):=rfl
 dsimp only at gp
 generalize Go.Sort.partition ltB d a b p=P at *
 simp (disch:=first | exact d_Q7 | fail) only [c132,hr0,SR,e0,e1,EVS,Nat.reduceAdd,Nat.reduceSub,Int.reduceToNat,Nat.reduceMul,Nat.reduceEqDiff,Nat.reduceLeDiff,Int.reduceEq,Int.reduceLT,Int.reduceLE,↓reduceIte]
 generalize Go.Sort.swp d a p=d1 at *
 have hq:=hr1.1
 generalize hset h id (.row 3 (d1.toList.map bS))=hh at *
 have u1:=Go.Sort.scanUp_ge (fun x=>ltB x d1[a]!) d1 (b - 1) (a + 1)
 have u2:=@scanUp_le (fun x=>ltB x d1[a]!) d1 (b - 1) (a + 1)
 have hq':=hq
 rw [row_of] at hq'
 refine up0 id n a d1 hh (by omega) hN hs1 hq _ _ _ (a + 1) (b - 1) _ _ (by omega) (Nat.le_refl _) (by omega) fun nx1 hn1=>?_
 generalize hI:Go.Sort.scanUp (fun x=>ltB x d1[a]!) d1 (b - 1) (a + 1)=i2 at *
 simp (disch:=first | exact d_Q7 | fail) only [unf k132_9.eq_1,c132,EVS,Nat.reduceAdd,Nat.reduceSub,Int.reduceToNat,Nat.reduceMul,Nat.reduceEqDiff,Nat.reduceLeDiff,Int.reduceEq,Int.reduceLT,Int.reduceLE,↓reduceIte]
 refine dn0 id n a d1 hh (by omega) hN hs1 hq _ _ i2 (by omega) (by omega) (b - 1) _ _ (by omega) fun nx2 hn2=>?_
 have u3:=Go.Sort.scanDown_le (fun x=>!ltB x d1[a]!) d1 i2 (b - 1)
 generalize hJ:Go.Sort.scanDown (fun x=>!ltB x d1[a]!) d1 i2 (b - 1)=j2 at *
 by_cases hgt:i2 > j2
 ·have dc:decide ((j2:Int) < i2)=true:=by simp;omega
  rw [if_pos hgt] at gp
  subst gp
  simp (disch:=first | exact d_Q7 | fail) only [unf k132_8.eq_1,c132,dc,hq',SR,EVS,Nat.reduceAdd,Nat.reduceSub,Int.reduceToNat,Nat.reduceMul,Nat.reduceEqDiff,Nat.reduceLeDiff,Int.reduceEq,Int.reduceLT,Int.reduceLE,↓reduceIte]
  exact ⟨(hr1.trans (RowR.one hq)).1,by omega,fun i hi1 hi2=>(hr1.trans (RowR.one hq)).2 i hi2⟩
 ·have dc:decide ((j2:Int) < i2)=false:=by simp;omega
  rw [if_neg hgt] at gp
  have f1:((i2:Nat):Int) + 1=((i2 + 1:Nat):Int):=by omega
  have f2:((j2:Nat):Int) - 1=((j2 - 1:Nat):Int):=by omega
  have hr2:RowR hh id (Go.Sort.swp d1 i2 j2) (hset hh id (.row 3 ((Go.Sort.swp d1 i2 j2).toList.map bS))):=RowR.one hq
  have hs2:(Go.Sort.swp d1 i2 j2).size=n:=by rw [sz_swp];exact hs1
  simp (disch:=first | exact d_Q7 | fail) only [unf k132_8.eq_1,c132,dc,f1,f2,hq',SR,EVS,Nat.reduceAdd,Nat.reduceSub,Int.reduceToNat,Nat.reduceMul,Nat.reduceEqDiff,Nat.reduceLeDiff,Int.reduceEq,Int.reduceLT,Int.reduceLE,↓reduceIte]
  refine pl_loop id n a (by omega) hN _ _ (i2 + 1) (j2 - 1) _ _ _ (Nat.le_refl _) (by omega) (by omega) (by omega) hs2 hr2.1 fun h' nx' iv hn' hx hb=>?_
  have hs3:(Go.Sort.partLoop ltB a (i2 + 1) (j2 - 1) (Go.Sort.swp d1 i2 j2)).2.size=n:=by rw [partLoop_size _ _ _ _ (Nat.le_refl _)];exact hs2
  have hx':=hx.1
  rw [row_of] at hx'
  generalize Go.Sort.partLoop ltB a (i2 + 1) (j2 - 1) (Go.Sort.swp d1 i2 j2)=R at *
  subst gp
  simp (disch:=first | exact d_Q7 | fail) only [unf k132_7.eq_1,c132,hx',SR,EVS,Nat.reduceAdd,Nat.reduceSub,Int.reduceToNat,Nat.reduceMul,Nat.reduceEqDiff,Nat.reduceLeDiff,Int.reduceEq,Int.reduceLT,Int.reduceLE,↓reduceIte]
  have fin:=((hr1.trans hr2).trans hx).trans (RowR.one (d:=Go.Sort.swp R.2 R.1 a) hx.1)
  exact ⟨fin.1,by omega,fun i hi1 hi2=>fin.2 i hi2⟩
theorem d_Q8 {P:Prop} (h:P:=by first|omega|(simp only[EVL]<;>omega)|(simp only[hget_c,Nat.reduceEqDiff,↓reduceIte];done)|assumption|(simp (disch:=omega) only[hg_ne,hg_eq,hgs_ne, *];done)|(simp only [rb_len];done)|with_unfolding_all rfl):P:=h
theorem pe_loop (id n a:Nat) (ha:a < n) (hN:n ≤ 1000000) (Q:Post Out):∀ (k i j:Nat) (d:Array Bd) (h:Heap) (nx:Nat),j + 1 - i < k→1 ≤ i→i ≤ n + 1→j < n→d.size=n→hget h id=some (rowB d) →
  (∀ (h':Heap) (nx':Nat) (jv:Int),nx ≤ nx'→RowR h id (Go.Sort.partEqLoop ltB a i j d).2 h'→(Go.Sort.partEqLoop ltB a i j d).1 ≤ n + 1→@Ok Out (runs T [.code k131_5] [(0,.sref 3 id n 0 n),(1,.int .i64 a),(4,.fn 46 []),(11,.int .i64 (Go.Sort.partEqLoop ltB a i j d).1),(12,.int .i64 jv),(70,.bool true)] h' nx') Q) →
  @Ok Out (runs T [.code b131_4,.inL none b131_4,.inB 0,.code k131_5] [(0,.sref 3 id n 0 n),(1,.int .i64 a),(4,.fn 46 []),(11,.int .i64 i),(12,.int .i64 j)] h nx) Q:=by
 intro k
 induction k with
 |zero=>intro i j d h nx hk;omega
 |succ k ih =>
  intro i j d h nx hk hi1 hi2 hj hn hr next
  have g:=@Go.Sort.partEqLoop_eq _ _ ltB a i j d
  have g2:=Go.Sort.partEqLoop_guard ltB a i j d
  have u1:=Go.Sort.scanUp_ge (fun x=>!ltB d[a]! x) d j i
  have u2:=@scanUp_le (fun x=>!ltB d[a]! x) d j i
  generalize hI:Go.Sort.scanUp (fun x=>!ltB d[a]! x) d j i=i2 at *
  have u3:=Go.Sort.scanDown_le (fun x=>ltB d[a]! x) d i2 j
  generalize hJ:Go.Sort.scanDown (fun x=>ltB d[a]! x) d i2 j=j2 at *
  by_cases hgt:i2 > j2
  ·rw [if_pos hgt] at g
   rw [g] at next
   have d1:decide ((j2:Int) < i2)=true:=by simp;omega
   simp (disch:=first | exact d_Q8 | fail) only [unf b131_4.eq_1,c131,EVS,Nat.reduceAdd,Nat.reduceSub,Int.reduceToNat,Nat.reduceMul,Nat.reduceEqDiff,Nat.reduceLeDiff,Int.reduceEq,Int.reduceLT,Int.reduceLE,↓reduceIte]
   refine up2 id n a d h ha hN hn hr _ _ (j + 1 - i) i j _ _ hj (Nat.le_refl _) hi2 fun nx1 hn1=>?_
   rw [hI]
   simp (disch:=first | exact d_Q8 | fail) only [unf k131_3.eq_1,c131,EVS,Nat.reduceAdd,Nat.reduceSub,Int.reduceToNat,Nat.reduceMul,Nat.reduceEqDiff,Nat.reduceLeDiff,Int.reduceEq,Int.reduceLT,Int.reduceLE,↓reduceIte]
   refine dn2 id n a d h ha hN hn hr _ _ i2 (by omega) (by omega) j _ _ hj fun nx2 hn2=>?_
   rw [hJ]
   simp (disch:=first | exact d_Q8 | fail) only [unf k131_2.eq_1,c131,nlt,w_xb,d1,EVS,Nat.reduceAdd,Nat.reduceSub,Int.reduceToNat,Nat.reduceMul,Nat.reduceEqDiff,Nat.reduceLeDiff,Int.reduceEq,Int.reduceLT,Int.reduceLE,↓reduceIte]
   exact next _ _ _ (by omega) (.refl hr) (by dsimp only;omega)
  ·rw [if_neg hgt] at g
   rw [g] at next
   have g3:=g2 hgt
   have d1:decide ((j2:Int) < i2)=false:=by simp;omega
   have e1:((i2:Nat):Int) + 1=((i2 + 1:Nat):Int):=by omega
   have e2:((j2:Nat):Int) - 1=((j2 - 1:Nat):Int):=by omega
   have hr':=hr
   rw [row_of] at hr'
   simp (disch:=first | exact d_Q8 | fail) only [unf b131_4.eq_1,c131,EVS,Nat.reduceAdd,Nat.reduceSub,Int.reduceToNat,Nat.reduceMul,Nat.reduceEqDiff,Nat.reduceLeDiff,Int.reduceEq,Int.reduceLT,Int.reduceLE,↓reduceIte]
   refine up2 id n a d h ha hN hn hr _ _ (j + 1 - i) i j _ _ hj (Nat.le_refl _) hi2 fun nx1 hn1=>?_
   rw [hI]
   simp (disch:=first | exact d_Q8 | fail) only [unf k131_3.eq_1,c131,EVS,Nat.reduceAdd,Nat.reduceSub,Int.reduceToNat,Nat.reduceMul,Nat.reduceEqDiff,Nat.reduceLeDiff,Int.reduceEq,Int.reduceLT,Int.reduceLE,↓reduceIte]
   refine dn2 id n a d h ha hN hn hr _ _ i2 (by omega) (by omega) j _ _ hj fun nx2 hn2=>?_
   rw [hJ]
   simp (disch:=first | exact d_Q8 | fail) only [unf k131_2.eq_1,c131,w_xb,d1,e1,e2,hr',SR,EVS,Nat.reduceAdd,Nat.reduceSub,Int.reduceToNat,Nat.reduceMul,Nat.reduceEqDiff,Nat.reduceLeDiff,Int.reduceEq,Int.reduceLT,Int.reduceLE,↓reduceIte]
   refine Ok_inL0 (ih (i2 + 1) (j2 - 1) (Go.Sort.swp d i2 j2) _ _ (by omega) (by omega) (by omega) (by omega) (by rw [sz_swp];exact hn) (hgs_eq hr) fun h' nx' iv hn' hx hb=>next _ _ _ (by omega) ((RowR.one hr).trans hx) hb)
theorem partE_spec (id n a b p:Nat) (d:Array Bd) (hab:a + 1 < b) (hb:b ≤ n) (hp1:a ≤ p) (hp2:p < b) (hN:n ≤ 1000000) (hn:d.size=n) (h:Heap) (nx:Nat) (hr:hget h id=some (rowB d)) :
  ∃ r,lim T 131 [.sref 3 id n 0 n,.int .i64 a,.int .i64 b,.int .i64 p,.fn 46 []] h nx=some r∧r.1=.int .i64 (Go.Sort.partitionEqual ltB d a b p).1∧RowN id (Go.Sort.partitionEqual ltB d a b p).2 h nx r.2.1 r.2.2:=by
 refine shr_ex tg131 rfl rfl ?_
 have e1:(b:Int) - 1=((b - 1:Nat):Int):=by omega
 have e0:(a:Int) + 1=((a + 1:Nat):Int):=by omega
 have hr0:=hr
 rw [row_of] at hr0
 have hr1:RowR h id (Go.Sort.swp d a p) (hset h id (.row 3 ((Go.Sort.swp d a p).toList.map bS))):=RowR.one hr
 have hs1:(Go.Sort.swp d a p).size=n:=by rw [sz_swp];exact hn
 have gp:Go.Sort.partitionEqual ltB d a b p=Go.Sort.partEqLoop ltB a (a + 1) (b - 1) (Go.Sort.swp d a p):=rfl
 rw [gp]
 simp (disch:=first | exact d_Q8 | fail) only [c131,hr0,SR,e0,e1,EVS,Nat.reduceAdd,Nat.reduceSub,Int.reduceToNat,Nat.reduceMul,Nat.reduceEqDiff,Nat.reduceLeDiff,Int.reduceEq,Int.reduceLT,Int.reduceLE,↓reduceIte]
 refine pe_loop id n a (by omega) hN _ _ (a + 1) (b - 1) _ _ _ (Nat.lt_succ_self _) (by omega) (by omega) (by omega) hs1 hr1.1 fun h' nx' iv hn' hx hb=>?_
 simp (disch:=first | exact d_Q8 | fail) only [unf k131_5.eq_1,c131,EVS,Nat.reduceAdd,Nat.reduceSub,Int.reduceToNat,Nat.reduceMul,Nat.reduceEqDiff,Nat.reduceLeDiff,Int.reduceEq,Int.reduceLT,Int.reduceLE,↓reduceIte]
 exact (hr1.trans hx).n (by omega)
theorem d_Q9 {P:Prop} (h:P:=by first|omega|(simp only[EVL]<;>omega)|(simp only[hget_c,Nat.reduceEqDiff,↓reduceIte];done)|assumption|(simp (disch:=omega) only[hg_ne,hg_eq,hgs_ne, *];done)|(simp only [rb_len];done)|with_unfolding_all rfl):P:=h
theorem ss_size {b i:Nat} {d:Array Bd}:∀ k,b - i ≤ k→i ≤ b→i ≤ Go.Sort.scanSorted ltB d b i∧Go.Sort.scanSorted ltB d b i ≤ b:=by
 intro k
 induction k generalizing i with
 |zero=>intro hk hi;rw [Go.Sort.scanSorted,if_neg (by simp;omega)];omega
 |succ k ih =>
  intro hk hi
  rw [Go.Sort.scanSorted]
  split
  ·rename_i hc
   simp only [Bool.and_eq_true,decide_eq_true_eq] at hc
   have:=ih (i:=i + 1) (by omega) (by omega)
   omega
  ·omega
theorem ss_scan (id n b:Nat) (A S:Int) (d:Array Bd) (h:Heap) (hb:b ≤ n) (hN:n ≤ 1000000) (hn:d.size=n) (hr:hget h id=some (rowB d)) (rest:List I) (Q:Post Out):∀ (k i:Nat) (nx:Nat) (x:Tm),b - i ≤ k→1 ≤ i→i ≤ b →
  (∀ nx':Nat,nx ≤ nx'→@Ok Out (runs T (.code k130_4::rest) [(0,.sref 3 id n 0 n),(1,.int .i64 A),(2,.int .i64 b),(3,.fn 46 []),(9,.int .i64 (Go.Sort.scanSorted ltB d b i:Nat)),(10,.int .i64 S),(36,.bool false)] h nx') Q) →
  @Ok Out (runs T (.code b130_0::.inL none b130_0::.inB 2::.code k130_4::rest) ((0,.sref 3 id n 0 n)::(1,.int .i64 A)::(2,.int .i64 b)::(3,.fn 46 [])::(9,.int .i64 i)::(10,.int .i64 S)::x) h nx) Q:=by
 have hr':=hr
 rw [row_of] at hr'
 intro k
 induction k with
 |zero =>
  intro i nx x hk hi hib next
  have h1:decide (i < b)=false:=by simp;omega
  rw [Go.Sort.scanSorted,if_neg (by simp;omega)] at next
  simp (disch:=first | exact d_Q9 | fail) only [unf b130_0.eq_1,c130,nlt,h1,EVS,Nat.reduceAdd,Nat.reduceSub,Int.reduceToNat,Nat.reduceMul,Nat.reduceEqDiff,Nat.reduceLeDiff,Int.reduceEq,Int.reduceLT,Int.reduceLE,↓reduceIte]
  exact next _ (by omega)
 |succ k ih =>
  intro i nx x hk hi hib next
  have e1:((i:Nat):Int) - 1=((i - 1:Nat):Int):=by omega
  by_cases hc:i < b
  ·have h1:decide (i < b)=true:=by simp;omega
   cases hb:ltB d[i]! d[i - 1]! with
   |false =>
    rw [Go.Sort.scanSorted,if_pos (by simp [hb];omega)] at next
    simp (disch:=first | exact d_Q9 | fail) only [unf b130_0.eq_1,c130,nlt,na1,e1,h1,cmp_spec,hr',SR,ltB_eq,hb,EVS,Nat.reduceAdd,Nat.reduceSub,Int.reduceToNat,Nat.reduceMul,Nat.reduceEqDiff,Nat.reduceLeDiff,Int.reduceEq,Int.reduceLT,Int.reduceLE,↓reduceIte]
    exact Ok_inL0 (ih (i + 1) _ _ (by omega) (by omega) (by omega) fun nx' h2=>next nx' (by omega))
   |true =>
    rw [Go.Sort.scanSorted,if_neg (by simp [hb])] at next
    simp (disch:=first | exact d_Q9 | fail) only [unf b130_0.eq_1,c130,nlt,e1,h1,cmp_spec,hr',SR,ltB_eq,hb,EVS,Nat.reduceAdd,Nat.reduceSub,Int.reduceToNat,Nat.reduceMul,Nat.reduceEqDiff,Nat.reduceLeDiff,Int.reduceEq,Int.reduceLT,Int.reduceLE,↓reduceIte]
    exact next _ (by omega)
  ·have h1:decide (i < b)=false:=by simp;omega
   rw [Go.Sort.scanSorted,if_neg (by simp;omega)] at next
   simp (disch:=first | exact d_Q9 | fail) only [unf b130_0.eq_1,c130,nlt,h1,EVS,Nat.reduceAdd,Nat.reduceSub,Int.reduceToNat,Nat.reduceMul,Nat.reduceEqDiff,Nat.reduceLeDiff,Int.reduceEq,Int.reduceLT,Int.reduceLE,↓reduceIte]
   exact next _ (by omega)
theorem sd_size:∀ (j:Nat) (d:Array Bd),(Go.Sort.shiftDown ltB j d).size=d.size:=by
 intro j
 induction j with
 |zero=>intro d;rfl
 |succ j ih=>intro d;rw [Go.Sort.shiftDown];split<;>simp [ih,sz_swp]
theorem su_size {b:Nat}:∀ (k j:Nat) (d:Array Bd),b - j ≤ k→(Go.Sort.shiftUp ltB b j d).size=d.size:=by
 intro k
 induction k with
 |zero=>intro j d hk;rw [Go.Sort.shiftUp,if_neg (by omega)]
 |succ k ih =>
  intro j d hk
  rw [Go.Sort.shiftUp]
  split
  ·split
   ·rfl
   ·rw [ih _ _ (by omega),sz_swp]
  ·rfl
theorem sd_shift (id n:Nat) (A B S:Int) (i:Nat) (hN:n ≤ 1000000) (rest:List I) (Q:Post Out):∀ (j:Nat) (d:Array Bd) (h:Heap) (nx:Nat) (x:Tm),j < n→d.size=n→hget h id=some (rowB d) →
  (∀ (h':Heap) (nx':Nat) (x:Tm),nx ≤ nx'→RowR h id (Go.Sort.shiftDown ltB j d) h'→@Ok Out (runs T (.code k130_3::rest) ((0,.sref 3 id n 0 n)::(1,.int .i64 A)::(2,.int .i64 B)::(3,.fn 46 [])::(9,.int .i64 i)::(10,.int .i64 S)::x) h' nx') Q) →
  @Ok Out (runs T (.code b130_1::.inL none b130_1::.inB 4::.code k130_3::rest) ((0,.sref 3 id n 0 n)::(1,.int .i64 A)::(2,.int .i64 B)::(3,.fn 46 [])::(9,.int .i64 i)::(10,.int .i64 S)::(11,.int .i64 j)::x) h nx) Q:=by
 intro j
 induction j with
 |zero =>
  intro d h nx x hj hn hr next
  have h1:decide ((1:Int) ≤ ((0:Nat):Int))=false:=by decide
  simp (disch:=first | exact d_Q9 | fail) only [unf b130_1.eq_1,c130,h1,EVS,Nat.reduceAdd,Nat.reduceSub,Int.reduceToNat,Nat.reduceMul,Nat.reduceEqDiff,Nat.reduceLeDiff,Int.reduceEq,Int.reduceLT,Int.reduceLE,↓reduceIte]
  exact next _ _ _ (by omega) (.refl hr)
 |succ j ih =>
  intro d h nx x hj hn hr next
  have h1:decide ((1:Int) ≤ ((j + 1:Nat):Int))=true:=by simp;omega
  have e1:((j + 1:Nat):Int) - 1=(j:Nat):=by omega
  have hr':=hr
  rw [row_of] at hr'
  cases hb:ltB d[j + 1]! d[j]! with
  |false =>
   rw [Go.Sort.shiftDown,if_pos (by simp [hb])] at next
   simp (disch:=first | exact d_Q9 | fail) only [unf b130_1.eq_1,c130,h1,e1,cmp_spec,hr',SR,ltB_eq,hb,w_xb,EVS,Nat.reduceAdd,Nat.reduceSub,Int.reduceToNat,Nat.reduceMul,Nat.reduceEqDiff,Nat.reduceLeDiff,Int.reduceEq,Int.reduceLT,Int.reduceLE,↓reduceIte]
   exact next _ _ _ (by omega) (.refl hr)
  |true =>
   rw [Go.Sort.shiftDown,if_neg (by simp [hb])] at next
   simp (disch:=first | exact d_Q9 | fail) only [unf b130_1.eq_1,c130,h1,e1,cmp_spec,hr',SR,ltB_eq,hb,w_xb,EVS,Nat.reduceAdd,Nat.reduceSub,Int.reduceToNat,Nat.reduceMul,Nat.reduceEqDiff,Nat.reduceLeDiff,Int.reduceEq,Int.reduceLT,Int.reduceLE,↓reduceIte]
   exact Ok_inL0 (ih (Go.Sort.swp d (j + 1) j) _ _ _ (by omega) (by rw [sz_swp];exact hn) (hgs_eq hr) fun h' nx' x hn' hx=>next _ _ _ (by omega) ((RowR.one hr).trans hx))
theorem su_shift (id n b:Nat) (A S:Int) (i:Nat) (hb:b ≤ n) (hN:n ≤ 1000000) (rest:List I) (Q:Post Out):∀ (k j:Nat) (d:Array Bd) (h:Heap) (nx:Nat) (x:Tm),b - j ≤ k→1 ≤ j→j ≤ n + 1→d.size=n→hget h id=some (rowB d) →
  (∀ (h':Heap) (nx':Nat) (x:Tm),nx ≤ nx'→RowR h id (Go.Sort.shiftUp ltB b j d) h'→@Ok Out (runs T rest ((0,.sref 3 id n 0 n)::(1,.int .i64 A)::(2,.int .i64 b)::(3,.fn 46 [])::(9,.int .i64 i)::(10,.int .i64 S)::x) h' nx') Q) →
  @Ok Out (runs T (.code b130_2::.inL none b130_2::.inB 6::rest) ((0,.sref 3 id n 0 n)::(1,.int .i64 A)::(2,.int .i64 b)::(3,.fn 46 [])::(9,.int .i64 i)::(10,.int .i64 S)::(12,.int .i64 j)::x) h nx) Q:=by
 intro k
 induction k with
 |zero =>
  intro j d h nx x hk hj1 hj hn hr next
  have h1:decide (j < b)=false:=by simp;omega
  rw [Go.Sort.shiftUp,if_neg (by omega)] at next
  simp (disch:=first | exact d_Q9 | fail) only [unf b130_2.eq_1,c130,nlt,h1,EVS,Nat.reduceAdd,Nat.reduceSub,Int.reduceToNat,Nat.reduceMul,Nat.reduceEqDiff,Nat.reduceLeDiff,Int.reduceEq,Int.reduceLT,Int.reduceLE,↓reduceIte]
  exact next _ _ _ (by omega) (.refl hr)
 |succ k ih =>
  intro j d h nx x hk hj1 hj hn hr next
  have e1:((j:Nat):Int) - 1=((j - 1:Nat):Int):=by omega
  have hr':=hr
  rw [row_of] at hr'
  by_cases hc:j < b
  ·have h1:decide (j < b)=true:=by simp;omega
   cases hb:ltB d[j]! d[j - 1]! with
   |false =>
    rw [Go.Sort.shiftUp,if_pos hc,if_pos (by simp [hb])] at next
    simp (disch:=first | exact d_Q9 | fail) only [unf b130_2.eq_1,c130,nlt,h1,e1,cmp_spec,hr',SR,ltB_eq,hb,w_xb,EVS,Nat.reduceAdd,Nat.reduceSub,Int.reduceToNat,Nat.reduceMul,Nat.reduceEqDiff,Nat.reduceLeDiff,Int.reduceEq,Int.reduceLT,Int.reduceLE,↓reduceIte]
    exact next _ _ _ (by omega) (.refl hr)
   |true =>
    rw [Go.Sort.shiftUp,if_pos hc,if_neg (by simp [hb])] at next
    simp (disch:=first | exact d_Q9 | fail) only [unf b130_2.eq_1,c130,nlt,na1,h1,e1,cmp_spec,hr',SR,ltB_eq,hb,w_xb,EVS,Nat.reduceAdd,Nat.reduceSub,Int.reduceToNat,Nat.reduceMul,Nat.reduceEqDiff,Nat.reduceLeDiff,Int.reduceEq,Int.reduceLT,Int.reduceLE,↓reduceIte]
    exact Ok_inL0 (ih (j + 1) (Go.Sort.swp d j (j - 1)) _ _ _ (by omega) (by omega) (by omega) (by rw [sz_swp];exact hn) (hgs_eq hr) fun h' nx' x hn' hx=>next _ _ _ (by omega) ((RowR.one hr).trans hx))
  ·have h1:decide (j < b)=false:=by simp;omega
   rw [Go.Sort.shiftUp,if_neg (by omega)] at next
   simp (disch:=first | exact d_Q9 | fail) only [unf b130_2.eq_1,c130,nlt,h1,EVS,Nat.reduceAdd,Nat.reduceSub,Int.reduceToNat,Nat.reduceMul,Nat.reduceEqDiff,Nat.reduceLeDiff,Int.reduceEq,Int.reduceLT,Int.reduceLE,↓reduceIte]
   exact next _ _ _ (by omega) (.refl hr)
end Go.Proofs.YtjmppkmacaeahaaGreatDoor.Fi
