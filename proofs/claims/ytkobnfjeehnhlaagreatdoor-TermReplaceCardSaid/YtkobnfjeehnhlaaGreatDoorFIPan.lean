/- A region whose order is drawn,and in which a call panics. -/
import Derived.Test.YtkobnfjeehnhlaaGreatDoorFIAny
set_option linter.all false
namespace Go.FI
open Go.RowKit
variable [Sys]
section
variable {g g':Gh} {w w':World} {P:Program} {B:Nat} {w0:World} {h h':Heap} {a:Act} {m m':Tm} {v:FV} {ops:Array Oper} {nt:Nat} {cal:Call} {cm:Nat→Nat} {gs:List G} {ps:List Nat}
 {M:Nat→Tm} {H:Nat→Heap} {N:Nat→Nat} {V:Nat→FV} {id nx:Nat} {pm:List Nat} {c:Nat}
def isCl:O→Option (Nat × List X)
 |.cl f as=>some (f,as)
 |_=>none
def okPan (cm:Nat→Nat) (gs:List G) (pm ps:List Nat) (c:Nat) (kp:List Nat):Bool :=
 decide (c < gs.length) && (gAt gs c).guard.isNone && (isCl (gAt gs c).op).isSome &&
 (List.range gs.length).all fun i =>
  (decide (i ≤ c) || bef pm ps i c) &&
  (decide (c ≤ i) || (decide (cls cm (gAt gs i).op ≤ 1) && !makes (gAt gs i).op)) &&
  (decide (c < i) || (reads (gAt gs i)).all fun t=>((List.range gs.length).all fun j=>decide ((gAt gs j).dst ≠ some t)) || ((List.range i).any fun j=>decide ((gAt gs j).dst=some t) && bef pm ps i j)) &&
  (match (gAt gs i).dst with | some t=>!kp.contains t | none=>true)
structure Pan (cm:Nat→Nat) (gs:List G) (pm ps:List Nat) (c:Nat) (kp:List Nat):Prop where
 lt:c < gs.length
 gd:(gAt gs c).guard=none
 cl:∃ f as,(gAt gs c).op=.cl f as
 aft:∀ i < gs.length,c < i→bef pm ps i c=true
 pre:∀ i < c,cls cm (gAt gs i).op ≤ 1∧makes (gAt gs i).op=false
 rd:∀ i ≤ c,∀ t ∈ reads (gAt gs i),(∀ j < gs.length,(gAt gs j).dst ≠ some t) ∨ ∃ j < i,(gAt gs j).dst=some t∧bef pm ps i j=true
 kp:∀ i < gs.length,∀ t,(gAt gs i).dst=some t→t ∉ kp
theorem pan_of {kp:List Nat} (hp:okPan cm gs pm ps c kp=true):Pan cm gs pm ps c kp:=by
 unfold okPan at hp
 simp only [Bool.and_eq_true,decide_eq_true_eq,Option.isNone_iff_eq_none,List.all_eq_true,List.mem_range] at hp
 obtain ⟨⟨⟨h1,h2⟩,h3⟩,h4⟩:=hp
 refine ⟨h1,h2,?_,fun i hi hlt=>?_,fun i hi=>?_,fun i hi t ht=>?_,fun i hi t ht=>?_⟩
 ·unfold isCl at h3
  split at h3
  ·rename_i f as he;exact ⟨f,as,he⟩
  ·simp at h3
 ·have:=(h4 i hi).1.1.1
  simp only [Bool.or_eq_true,decide_eq_true_eq] at this
  exact this.resolve_left (by omega)
 ·have:=(h4 i (by omega)).1.1.2
  simp only [Bool.or_eq_true,decide_eq_true_eq,Bool.and_eq_true,Bool.not_eq_true'] at this
  exact this.resolve_left (by omega)
 ·have:=(h4 i (by omega)).1.2
  simp only [Bool.or_eq_true,decide_eq_true_eq,List.all_eq_true,List.any_eq_true,Bool.and_eq_true,List.mem_range] at this
  have:=this.resolve_left (by omega) t ht
  rcases this with h5 | ⟨j,h5,h6,h7⟩
  ·exact .inl fun j hj=>h5 j hj
  ·exact .inr ⟨j,h5,h6,h7⟩
 ·have:=(h4 i hi).2
  rw [ht] at this
  simpa using this
theorem pre_vals (hst:Stable cal cm) (hdst:∀ i < gs.length,∀ j < gs.length,i ≠ j→∀ t,(gAt gs j).dst=some t→(gAt gs i).dst ≠ some t) {kp:List Nat} (hP:Pan cm gs pm ps c kp) {nx:Nat} {x:Tm × Heap × Nat} (hr:rops cal id (gs.take c) m h nx=some x) :
  ∃ (M:Nat→Tm) (V:Nat→FV),M 0=m∧M c=x.1∧x.2.1=h∧x.2.2=nx∧∀ k < c,∃ b,wanted (M k) (gAt gs k).guard=some b∧(b=true→opg cal (id + k) (gAt gs k) (M k) h nx=some (V k,h,nx))∧(b=false→V k=.tup []) ∧
   (∀ t,(∀ j < gs.length,(gAt gs j).dst ≠ some t)→gt (M (k + 1)) t=gt m t)∧(∀ t,∀ j ≤ k,(gAt gs j).dst=some t→gt (M (k + 1)) t=V j):=by
 obtain ⟨m',h',nx'⟩:=x
 obtain ⟨M,H,N,V,ht,rfl,rfl,rfl,rfl,rfl,rfl⟩:=rops_tr (gs.take c) id m h nx m' h' nx' hr
 have hlen:(gs.take c).length=c:=by have:=hP.lt;simp;omega
 have hg:∀ k,k < c→gAt (gs.take c) k=gAt gs k:=fun k hk=>by simp [gAt,List.getElem?_take,hk]
 have same:∀ k,k ≤ c→H k=H 0∧N k=N 0:=by
  intro k
  induction k with
  |zero=>exact fun _=>⟨rfl,rfl⟩
  |succ k ih =>
   intro hk
   obtain ⟨i1,i2⟩:=ih (by omega)
   obtain ⟨b,s1,s2,s3,s4⟩:=ht.step k (by omega)
   rw [hg k (by omega)] at s2
   cases b with
   |false=>obtain ⟨_,e1,e2⟩:=s3 rfl;exact ⟨e1.trans i1,e2.trans i2⟩
   |true =>
    obtain ⟨e1,e2,_⟩:=opg_stable hst (hP.pre k (by omega)).1 (hP.pre k (by omega)).2 (s2 rfl)
    exact ⟨e1.trans i1,e2.trans i2⟩
 refine ⟨M,V,rfl,by rw [hlen],by rw [hlen];exact (same c (Nat.le_refl _)).1,by rw [hlen];exact (same c (Nat.le_refl _)).2,fun k hk=>?_⟩
 obtain ⟨b,s1,s2,s3,s4⟩:=ht.step k (by omega)
 rw [hg k hk] at s1 s2 s4
 refine ⟨b,s1,fun hb=>?_,fun hb=>(s3 hb).1,?_,?_⟩
 ·have:=s2 hb
  rw [(same k (by omega)).1,(same k (by omega)).2,(same (k + 1) (by omega)).1,(same (k + 1) (by omega)).2] at this
  exact this
 ·have:∀ k,k ≤ c→∀ t,(∀ j < gs.length,(gAt gs j).dst ≠ some t)→gt (M k) t=gt (M 0) t:=by
   intro k
   induction k with
   |zero=>exact fun _ _ _=>rfl
   |succ k ih =>
    intro hk t hno
    obtain ⟨b,s1,s2,s3,s4⟩:=ht.step k (by omega)
    rw [s4,hg k (by omega),← ih (by omega) t hno]
    have hne:=hno k (by have:=hP.lt;omega)
    cases hd:(gAt gs k).dst with
    |none=>rfl
    |some d=>simp only [put,gt];rw [if_neg (fun e=>hne (by rw [hd,e]))]
  exact fun t hno=>this (k + 1) (by omega) t hno
 ·have:∀ k,k ≤ c→∀ t,∀ j < k,(gAt gs j).dst=some t→gt (M k) t=V j:=by
   intro k
   induction k with
   |zero=>intro _ t j hj;omega
   |succ k ih =>
    intro hk t j hj hd
    obtain ⟨b,s1,s2,s3,s4⟩:=ht.step k (by omega)
    rw [s4,hg k (by omega)]
    by_cases hjk:j=k
    ·subst hjk;rw [hd];simp [put,gt]
    ·rw [← ih (by omega) t j (by omega) hd]
     have hne:=hdst k (by have:=hP.lt;omega) j (by have:=hP.lt;omega) (fun e=>hjk e.symm) t hd
     cases hdk:(gAt gs k).dst with
     |none=>rfl
     |some d=>simp only [put,gt];rw [if_neg (fun e=>hne (by rw [hdk,e]))]
  exact fun t j hj hd=>this (k + 1) (by omega) t j (by omega) hd
structure PI (B:Nat) (w0:World) (nt:Nat) (gs:List G) (V:Nat→FV) (m:Tm) (c:Nat) (a0:Act) (g0:Gh) (h:Heap) (wi:World) (NN:Nat→Prop) (S:Nat→Prop) (g:Gh) (a:Act) (w:World):Prop where
 sub:∀ j,S j→j < c
 tm1:∀ j,S j→∀ d,(gAt gs j).dst=some d→R g w (V j) (a.tmps.getD d undef)
 tm0:∀ t,(∀ j < gs.length,(gAt gs j).dst ≠ some t)→R g w (gt m t) (a.tmps.getD t undef)
 gl:GlOk g w
 nx:Nx B w0 g0 g h wi w
 kN:KNew g0 g h h NN
 size:a.tmps.size=nt
 defers:a.defers=a0.defers
theorem pan_sound (hcal:CalOkP P cal) (hst:Stable (np cal) cm) (hd:okDraw P nt cm ops gs pm ps=true) {kp:List Nat} (hp:okPan cm gs pm ps c kp=true) {r:Option Nat} {n:Nat} {nx:Nat} {x:Tm × Heap × Nat} (hrun:rops (np cal) id (gs.take c) m h nx=some x)
  {f:Nat} {as:List X} (hop:(gAt gs c).op=.cl f as) {u:FV} {h1:Heap} {nx1:Nat} (hc:cal f (evs x.1 as) x.2.1 x.2.2=some (.pan u,h1,nx1))
  (hm:RT g w m a) (hs:a.tmps.size=nt) (hI:Inv B w0 g h w) (hn:∀ j,j < gs.length→hget h (id + j)=none) (_hle:id + gs.length ≤ nx) (hf:Fresh h nx) {NN:Nat→Prop} (hN1:∀ j,id ≤ j→j < id + gs.length→NN j) (hN2:∀ j,nx ≤ j→j < nx1→NN j) :
  wpAnyIn (fb r) n P .any ops (RegPostP B w0 nt a g h w NN (some u) (keepOf m kp) h1) ops.size (Array.replicate ops.size false) a w:=by
 have hD:=draw_of hd
 have hP:=pan_of hp
 obtain ⟨M,V,e1,e2,e3,e4,hstep⟩:=pre_vals hst hD.dst hP hrun
 rw [e3,e4,← e2] at hc
 have hlen:ops.size=gs.length:=hD.len.symm
 have milt:∀ k < gs.length,mi pm k < gs.length:=fun k hk=>by
  obtain ⟨o,ho,_⟩:=hD.op k hk
  have:=(Array.getElem?_eq_some_iff.1 ho).1
  rw [hD.len];exact this
 have reads_ok:∀ {S:Nat→Prop} {g':Gh} {a':Act} {w':World} {j:Nat},PI B w0 nt gs V m c a g h w NN S g' a' w'→j ≤ c→(∀ i < gs.length,bef pm ps j i=true→S i)→RT g' w' (keepOf (M j) (reads (gAt gs j))) a':=by
  intro S g' a' w' j hI' hj hpred
  refine ⟨fun t=>?_,hI'.gl⟩
  by_cases hmem:t ∈ reads (gAt gs j)
  ·rw [gt_keepOf _ _ _ hmem]
   rcases hP.rd j hj t hmem with h5 | ⟨i,h5,h6,h7⟩
   ·have:gt (M j) t=gt m t:=by
     cases j with
     |zero=>rw [e1]
     |succ k=>obtain ⟨_,_,_,_,q,_⟩:=hstep k (by omega);exact q t h5
    rw [this]
    exact hI'.tm0 t h5
   ·have:gt (M j) t=V i:=by
     cases j with
     |zero=>omega
     |succ k=>obtain ⟨_,_,_,_,_,q⟩:=hstep k (by omega);exact q t i (by omega) h6
    rw [this]
    exact hI'.tm1 i (hpred i (by have:=hP.lt;omega) h7) t h6
  ·rw [gt_keepOf_not _ _ _ hmem];exact .undef _
 have key:∀ (fuel:Nat) (l:Array Bool) (g':Gh) (a':Act) (w':World),open_ l=fuel→l.size=gs.length→(∀ k < gs.length,Has l k→∀ i,(psAt ps k).testBit i=true→Has l i) →
   PI B w0 nt gs V m c a g h w NN (At pm gs.length l) g' a' w' →
   wpAnyIn (fb r) n P .any ops (RegPostP B w0 nt a g h w NN (some u) (keepOf m kp) h1) fuel l a' w':=by
  intro fuel
  have never:∀ (l:Array Bool) (g':Gh) (a':Act) (w':World),(∀ j,j < gs.length→Has l j)→PI B w0 nt gs V m c a g h w NN (At pm gs.length l) g' a' w'→False:=by
   intro l g' a' w' hall hI'
   have:=hI'.sub c ⟨hP.lt,hall _ (milt c hP.lt)⟩
   omega
  induction fuel with
  |zero =>
   intro l g' a' w' ho hsz hdc hI'
   exact (never l g' a' w' (fun j hj=>open_zero ho j (by omega)) hI').elim
  |succ fuel ih =>
   intro l g' a' w' ho hsz hdc hI'
   refine ⟨fun hr=>(never l g' a' w' (ready_least hD hsz hr) hI').elim,fun j hj=>?_⟩
   rw [mem_ready] at hj
   obtain ⟨hu,o,hoj,hedge⟩:=hj
   obtain ⟨q1,q2⟩:=not_has hu
   have hjl:j < gs.length:=by omega
   have hset:=has_set q2
   have hpred:∀ i,(psAt ps j).testBit i=true→Has l i:=by
    intro i hi
    obtain ⟨o',ho',hm',hlt⟩:=hD.edge j hjl
    rw [hoj] at ho';cases ho'
    obtain ⟨ee,he1,he2,he3⟩:=hm' i hi
    have hon:=hedge ee he1 he2
    rcases he3 with he3 | he3
    ·subst he3;exact hon
    ·exact hdc ee.on (by have:=hlt ee he1 he2;omega) hon i he3
   obtain ⟨p,hpl,hpj⟩:=hD.sur j hjl
   have hpS:∀ i < gs.length,bef pm ps p i=true→At pm gs.length l i:=fun i hi hb=>⟨hi,hpred _ (by rw [← hpj];exact hb)⟩
   have hpc:p ≤ c:=by
    rcases Nat.lt_or_ge c p with h5 | h5
    ·have:=hI'.sub c (hpS c hP.lt (hP.aft p hpl h5))
     omega
    ·exact h5
   have hRT:=reads_ok hI' hpc hpS
   obtain ⟨o',ho',hokp⟩:=hD.op p hpl
   rw [hpj,hoj] at ho'
   cases ho'
   obtain ⟨k1,k2,k3,k4⟩:=okG_dst hokp
   unfold wpOpIn
   rw [hoj]
   rcases Nat.lt_or_ge p c with hlt | hge
   ·-- one that only reads
    obtain ⟨b,t1,t2,t3,t4,t5⟩:=hstep p hlt
    have hw:=wanted_sound (ops:=ops) hRT hI'.size k3 (by rw [wanted_keepOf];exact t1)
    simp only [hw]
    have next:∀ g2 w2 x2,R g2 w2 (V p) x2→Nx B w0 g' g2 h w' w2→KNew g' g2 h h (fun i=>i=id + p ∨ nx ≤ i∧i < nx)→wpAnyIn (fb r) n P .any ops (RegPostP B w0 nt a g h w NN (some u) (keepOf m kp) h1) fuel (l.setIfInBounds j true) (a'.put o.dst x2) w2:=by
     intro g2 w2 x2 hx2 hn2 hk2
     have hS:∀ k,At pm gs.length (l.setIfInBounds j true) k ↔ At pm gs.length l k ∨ k=p:=by
      intro k
      constructor
      ·rintro ⟨hk,hh⟩
       rcases (hset _).1 hh with h3 | h3
       ·exact .inl ⟨hk,h3⟩
       ·exact .inr (hD.inj k hk p hpl (h3.trans hpj.symm))
      ·rintro (⟨hk,hh⟩ | rfl)
       ·exact ⟨hk,(hset _).2 (.inl hh)⟩
       ·exact ⟨hpl,(hset _).2 (.inr hpj)⟩
     have same:∀ t,(gAt gs p).dst ≠ some t→(a'.put o.dst x2).tmps.getD t undef=a'.tmps.getD t undef:=by
      intro t ht
      rw [k1]
      cases hdj:(gAt gs p).dst with
      |none=>rfl
      |some d =>
       have:d ≠ t:=fun e=>ht (by rw [hdj,e])
       simp [Act.put,Array.getElem?_setIfInBounds_ne this]
     refine ih _ g2 _ w2 (by have:=open_set hu;omega) (by simpa using hsz) ?_ ⟨fun k hk=>?_,fun k hk d hdk=>?_,fun t hno=>?_,fun k cs hk=>(hI'.gl k cs hk).mono hn2.le,hI'.nx.trans hn2,fun i hi hki=>?_,by rw [put_size];exact hI'.size,by rw [put_defers];exact hI'.defers⟩
     ·intro k hk hSk i hi
      rcases (hset k).1 hSk with h3 | h3
      ·exact (hset i).2 (.inl (hdc k hk h3 i hi))
      ·subst h3;exact (hset i).2 (.inl (hpred i hi))
     ·rcases (hS k).1 hk with h3 | h3
      ·exact hI'.sub k h3
      ·omega
     ·rcases (hS k).1 hk with h3 | h3
      ·have hkp:k ≠ p:=fun e=>q1 (by rw [← hpj,← e];exact h3.2)
       rw [same d (hD.dst p hpl k h3.1 (fun e=>hkp e.symm) d hdk)]
       exact (hI'.tm1 k h3 d hdk).mono hn2.le
      ·subst h3
       have hlt2:d < a'.tmps.size:=by rw [hdk] at k2;simp [okDst] at k2;rw [hI'.size];exact k2
       rw [k1,hdk]
       simpa [Act.put,Array.getD,hlt2] using hx2
     ·rw [same t (hno p hpl)]
      exact (hI'.tm0 t hno).mono hn2.le
     ·have r1:=hI'.kN i hi hki
      exact ⟨(hk2 i (fun e=>hi (by rcases e with e | e;exact e ▸ hN1 _ (by omega) (by omega);omega)) r1.1).1,rfl⟩
    cases b with
    |false =>
     simp only [Bool.false_eq_true,if_false]
     refine ⟨fun _ _=>trivial,?_⟩
     exact next g' w' undef (by rw [t3 rfl];exact .tup [] [] .nil) (.refl hI'.nx.inv) (fun _ _ h=>⟨h,rfl⟩)
    |true =>
     simp only [if_true]
     have e1':opg (np cal) (id + p) (gAt gs p) (keepOf (M p) (reads (gAt gs p))) h nx=some (V p,h,nx):=by
      rw [opg_congr (ev_keepOf _ _)];exact t2 rfl
     obtain ⟨od,oop,oty,opos,oaft,ogd⟩:=o
     exact opg_sound hcal.np hI'.nx.inv hRT (hn p hpl) hf k4 e1' fun g2 w2 x2 f1 f2 f3=>next g2 w2 x2 f1 f2 f3
   ·-- the call
    have hpc2:p=c:=by omega
    subst hpc2
    have hw:=wanted_sound (ops:=ops) hRT hI'.size k3 (b:=true) (by rw [hP.gd];rfl)
    simp only [hw,if_true]
    rw [hop] at k4
    obtain ⟨od,oop,oty,opos,oaft,ogd⟩:=o
    simp only [okO] at k4
    split at k4
    ·rename_i f2 args2 ts2
     simp only [Bool.and_eq_true,beq_iff_eq,decide_eq_true_eq] at k4
     obtain ⟨⟨rfl,hlt⟩,h2⟩:=k4
     obtain ⟨he,h3⟩:=hcal.fn _ _ _ _ _ _ _ hc hlt
     obtain ⟨xs,z1,z2⟩:=exec_cl (ts:=ts2) (dst:=od) (ty:=oty) (pos:=opos) (aft:=oaft) (gd:=ogd) (caps:=[]) (cs:=[]) hRT he (fo:=.func _) rfl .nil h2
     have hev:evs (keepOf (M p) (reads (gAt gs p))) as=evs (M p) as:=evs_congr fun y hy=>ev_keepOf _ _ y (by rw [hop];exact hy)
     rw [hev] at z2
     refine ⟨fun _ _=>trivial,?_⟩
     rw [Oper.semAt_eq _ _ _ (by intro c;simp),z1,Oper.uponIn_enter]
     refine ⟨fun hh=>by simp [fb,Fence.wide] at hh,callsIn_fb ((h3 B w0 g' w' xs hI'.nx.inv hI'.gl (by simpa using z2) hf).mono ?_)⟩
     rintro e w2 ⟨g2,hr2,hn2,hk2⟩
     rcases hr2 with ⟨y,rfl,hr2⟩ | ⟨u',y,hu2,rfl,hr2⟩
     ·cases hr2
     ·cases hu2
      refine ⟨g2,⟨fun t=>?_,fun k cs hk=>(hI'.gl k cs hk).mono hn2.le⟩,hI'.size,hI'.defers,hI'.nx.trans hn2,fun i hi hki=>?_,y,rfl,hr2⟩
      ·by_cases hmem:t ∈ kp
       ·rw [gt_keepOf _ _ _ hmem]
        exact (hI'.tm0 t fun j hj hdj=>hP.kp j hj t hdj hmem).mono hn2.le
       ·rw [gt_keepOf_not _ _ _ hmem];exact .undef _
      ·have r1:=hI'.kN i hi hki
       exact hk2 i (fun e=>hi (hN2 i e.1 e.2)) r1.1
    ·simp at k4
 have hno:∀ k,¬ Has (Array.replicate ops.size false) k:=by
  intro k hk
  unfold Has at hk
  by_cases hk':k < ops.size<;>simp [hk'] at hk
 refine key ops.size _ g a w (by simp [open_]) (by simp [hlen]) (fun k _ hk=>absurd hk (hno k)) ⟨fun j hj=>absurd hj.2 (hno _),fun j hj=>absurd hj.2 (hno _),fun t _=>hm t,hm.gl,.refl hI,fun _ _ h=>⟨h,rfl⟩,hs,rfl⟩
theorem rechk_bnd {α β:Type} {h:Heap} {m:Tm} {x:Option α} {f:α→Option β}:∀ l:List (Option (Nat × Bool) × Option Nat × Nat × Nat),rechk h m (bnd x f) l=bnd (rechk h m x l) f:=by
 intro l
 induction l with
 |nil=>rfl
 |cons p l ih =>
  obtain ⟨gd,ag,n,d⟩:=p
  simp only [rechk]
  cases wanted m gd with
  |none=>rfl
  |some b =>
   simp only [bnd]
   split
   ·unfold chk
    split
    ·exact ih
    ·rfl
   ·exact ih
theorem rops_append:∀ (l1 l2:List G) (id:Nat) (m:Tm) (h:Heap) (nx:Nat),rops cal id (l1 ++ l2) m h nx=bnd (rops cal id l1 m h nx) fun x=>rops cal (id + l1.length) l2 x.1 x.2.1 x.2.2:=by
 intro l1
 induction l1 with
 |nil=>intro l2 id m h nx;rfl
 |cons gg l1 ih =>
  intro l2 id m h nx
  have e:id + (gg::l1).length=id + 1 + l1.length:=by simp;omega
  simp only [List.cons_append,rops,e]
  cases wanted m gg.guard with
  |none=>rfl
  |some b =>
   simp only [bnd]
   split
   ·cases opg cal id gg m h nx with
    |none=>rfl
    |some x =>
     simp only
     rw [ih,rechk_bnd]
     rfl
   ·rw [ih];rfl
theorem ropsD_some {cal:Call} {r:Option FV × Tm × Heap × Nat} (hr:ropsD cal id c gs m h nx=some r) (hc:c < gs.length) (hg:(gAt gs c).guard=none) :
  (∃ z,r=(none,z)∧rops (np cal) id gs m h nx=some z) ∨ ∃ x f as u h1 nx1,rops (np cal) id (gs.take c) m h nx=some x∧(gAt gs c).op=.cl f as∧cal f (evs x.1 as) x.2.1 x.2.2=some (.pan u,h1,nx1)∧r=(some u,m,h1,nx1):=by
 unfold ropsD at hr
 obtain ⟨x,k1,hr⟩:=bnd_some hr
 change (match (gAt gs c).op with
  |.cl f as=>bnd (cal f (evs x.1 as) x.2.1 x.2.2) fun y=>match y.1 with
   |.pan u=>some (some u,m,y.2.1,y.2.2)
   |v=>bnd (rechk y.2.1 (put x.1 (gAt gs c).dst v) (rops (np cal) (id + c + 1) (gs.drop (c + 1)) (put x.1 (gAt gs c).dst v) y.2.1 y.2.2) (gAt gs c).re) fun z=>some (none,z)
  |_=>none)=some r at hr
 split at hr
 ·rename_i f as ho
  obtain ⟨⟨v,h1,nx1⟩,k2,hr⟩:=bnd_some hr
  simp only at hr
  split at hr
  ·rename_i u
   simp only [Option.some.injEq] at hr
   exact .inr ⟨x,f,as,u,h1,nx1,k1,ho,k2,hr.symm⟩
  ·rename_i hnp
   obtain ⟨z,k3,hr⟩:=bnd_some hr
   simp only [Option.some.injEq] at hr
   refine .inl ⟨z,hr.symm,?_⟩
   have hsplit:gs=gs.take c ++ (gAt gs c::gs.drop (c + 1)):=by
    have e:gAt gs c=gs[c]:=by simp [gAt,hc]
    rw [e,← List.drop_eq_getElem_cons hc,List.take_append_drop]
   have hl:(gs.take c).length=c:=by simp;omega
   rw [hsplit,rops_append,k1]
   simp only [bnd,hl]
   simp only [rops,hg,wanted,bnd,if_true]
   have hpn:isPan v=false:=by cases v<;>first | rfl | exact absurd rfl (hnp _)
   have hop:opg (np cal) (id + c) (gAt gs c) x.1 x.2.1 x.2.2=some (v,h1,nx1):=by
    unfold opg
    rw [ho]
    simp only [np,k2,bnd,chk,hpn,if_true]
   rw [hop]
   exact k3
 ·simp at hr
end
end Go.FI
