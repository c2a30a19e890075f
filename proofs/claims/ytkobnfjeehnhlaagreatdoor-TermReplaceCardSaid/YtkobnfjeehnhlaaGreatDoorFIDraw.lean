/- A region,in the machine: in any order that the machine may draw. -/
import Derived.Test.YtkobnfjeehnhlaaGreatDoorFIStab
set_option linter.all false
namespace Go.FI
open Go.RowKit
variable [Sys]
def gAt (gs:List G) (i:Nat):G:=gs.getD i default
def psAt (ps:List Nat) (i:Nat):Nat:=ps.getD i 0
def reads (g:G):List Nat :=
 (match g.guard with | some (t,_)=>[t] | none=>[]) ++ g.op.xs.filterMap fun x=>match x with | .t n=>some n | .c _=>none
def edgeMask (ps:List Nat) (m:Nat) (e:Edge):Nat:=if Region.binds .any e=true then m ||| (2 ^ e.on ||| psAt ps e.on) else m
def okEdges (ps:List Nat) (i:Nat) (o:Oper):Bool :=
 psAt ps i == o.after.toList.foldl (edgeMask ps) 0 && o.after.toList.all fun e=>!Region.binds .any e || decide (e.on < i)
def mi (pm:List Nat) (p:Nat):Nat:=pm.getD p 0
def bef (pm ps:List Nat) (i j:Nat):Bool:=(psAt ps (mi pm i)).testBit (mi pm j)
def okLate (gs : List G) (i j : Nat) : Bool :=
  (match (gAt gs j).op, (gAt gs j).dst with
   | .ld ag (.t n), some d => (gAt gs i).re.contains ((gAt gs j).guard, ag, n, d)
   | _, _ => false) &&
  (List.range gs.length).all fun k => match (gAt gs k).dst with
    | some t => !(reads (gAt gs j)).contains t || decide (k < j)
    | none => true
def okPair (cm : Nat → Nat) (gs : List G) (pm ps : List Nat) (i j : Nat) : Bool :=
  let a := gAt gs i
  let b := gAt gs j
  decide (i = j) ||
    (decide (mi pm i ≠ mi pm j) &&
     (match b.dst with
      | some t => (decide (a.dst ≠ some t)) && (!(reads a).contains t || (if j < i then bef pm ps i j else bef pm ps j i))
      | none => true) &&
     (!(cls cm a.op == 2) || cls cm b.op == 0 || (if j < i then makes b.op || bef pm ps i j || okLate gs i j else bef pm ps j i)))
def okDraw (P:Program) (nt:Nat) (cm:Nat→Nat) (ops:Array Oper) (gs:List G) (pm ps:List Nat):Bool :=
 gs.length == ops.size && (List.range gs.length).all fun i=>(match ops[i]? with | some o=>okEdges ps i o | none=>false) && (match ops[mi pm i]? with | some o=>okG P ops nt o (gAt gs i) | none=>false) &&
  pm.contains i && decide (cls cm (gAt gs i).op ≤ 2) && (List.range gs.length).all fun j=>okPair cm gs pm ps i j
structure Tr (cal:Call) (id:Nat) (gs:List G) (M:Nat→Tm) (H:Nat→Heap) (N:Nat→Nat) (V:Nat→FV):Prop where
 step:∀ k,k < gs.length→∃ b,wanted (M k) (gAt gs k).guard=some b ∧
  (b=true→opg cal (id + k) (gAt gs k) (M k) (H k) (N k)=some (V k,H (k + 1),N (k + 1))) ∧
  (b=false→V k=.tup []∧H (k + 1)=H k∧N (k + 1)=N k)∧M (k + 1)=put (M k) (gAt gs k).dst (V k)
 rech:∀ k,k < gs.length→wanted (M k) (gAt gs k).guard=some true→∀ gd ag n d,(gd,ag,n,d) ∈ (gAt gs k).re→wanted (M (k + 1)) gd=some true→still (H (k + 1)) (M (k + 1)) (.ld ag (.t n)) d=true
theorem rops_tr {cal:Call}:∀ (gs:List G) (id:Nat) (m:Tm) (h:Heap) (nx:Nat) (m':Tm) (h':Heap) (nx':Nat),rops cal id gs m h nx=some (m',h',nx') →
  ∃ M H N V,Tr cal id gs M H N V∧M 0=m∧H 0=h∧N 0=nx∧M gs.length=m'∧H gs.length=h'∧N gs.length=nx':=by
 intro gs
 induction gs with
 |nil =>
  intro id m h nx m' h' nx' hr
  simp only [rops,Option.some.injEq,Prod.mk.injEq] at hr
  obtain ⟨rfl,rfl,rfl⟩:=hr
  exact ⟨fun _=>m,fun _=>h,fun _=>nx,fun _=>.undef,⟨fun k hk=>by simp at hk,fun k hk=>by simp at hk⟩,rfl,rfl,rfl,rfl,rfl,rfl⟩
 |cons gg gs ih =>
  intro id m h nx m' h' nx' hr
  simp only [rops] at hr
  obtain ⟨b,hb,hr⟩:=bnd_some hr
  have key:∀ (v:FV) (h1:Heap) (nx1:Nat),rops cal (id + 1) gs (put m gg.dst v) h1 nx1=some (m',h',nx') →
    (b=true→opg cal id gg m h nx=some (v,h1,nx1))→(b=false→v=.tup []∧h1=h∧nx1=nx) →
    (b=true→∀ gd ag n d,(gd,ag,n,d) ∈ gg.re→wanted (put m gg.dst v) gd=some true→still h1 (put m gg.dst v) (.ld ag (.t n)) d=true) →
    ∃ M H N V,Tr cal id (gg::gs) M H N V∧M 0=m∧H 0=h∧N 0=nx∧M (gg::gs).length=m'∧H (gg::gs).length=h'∧N (gg::gs).length=nx':=by
   intro v h1 nx1 hr h1t h1f hre
   obtain ⟨M,H,N,V,ht,e1,e2,e3,e4,e5,e6⟩:=ih _ _ _ _ _ _ _ hr
   have eg:∀ k,gAt (gg::gs) (k + 1)=gAt gs k:=fun k=>by simp [gAt]
   refine ⟨fun k=>match k with | 0=>m | k + 1=>M k,fun k=>match k with | 0=>h | k + 1=>H k,fun k=>match k with | 0=>nx | k + 1=>N k,fun k=>match k with | 0=>v | k + 1=>V k,⟨fun k hk=>?_,fun k hk=>?_⟩,rfl,rfl,rfl,by simpa using e4,by simpa using e5,by simpa using e6⟩
   ·cases k with
    |zero =>
     refine ⟨b,hb,?_,?_,?_⟩
     ·intro hbt;simp only [e2,e3];exact h1t hbt
     ·intro hbf;simp only [e2,e3];exact h1f hbf
     ·simp only [e1];rfl
    |succ k =>
     have hk':k < gs.length:=by simpa using hk
     obtain ⟨b',f1,f2,f3,f4⟩:=ht.step k hk'
     have ei:id + (k + 1)=id + 1 + k:=by omega
     rw [eg,ei]
     exact ⟨b',f1,f2,f3,f4⟩
   ·cases k with
    |zero =>
     intro hw
     have hw':wanted m gg.guard=some true:=hw
     rw [hb] at hw'
     simp only [Option.some.injEq] at hw'
     simp only [e1,e2]
     exact hre hw'
    |succ k =>
     rw [eg]
     exact ht.rech k (by simpa using hk)
  split at hr
  ·rename_i hbt
   obtain ⟨⟨v1,h1,nx1⟩,k1,hr⟩:=bnd_some hr
   obtain ⟨hr,hre⟩:=rechk_some hr
   exact key v1 h1 nx1 hr (fun _=>k1) (fun hf=>by simp_all) (fun _=>hre)
  ·rename_i hbf
   exact key (.tup []) h nx hr (fun ht=>absurd ht hbf) (fun _=>⟨rfl,rfl,rfl⟩) (fun ht=>absurd ht hbf)
section
variable {g g':Gh} {w w':World} {P:Program} {B:Nat} {w0:World} {h h':Heap} {a:Act} {m m':Tm} {v:FV} {ops:Array Oper} {nt:Nat} {cal:Call} {cm:Nat→Nat} {gs:List G} {ps:List Nat}
 {M:Nat→Tm} {H:Nat→Heap} {N:Nat→Nat} {V:Nat→FV} {id:Nat} {pm:List Nat}
theorem mask_spec {j:Nat}:∀ (l:List Edge) (acc:Nat),(l.foldl (edgeMask ps) acc).testBit j=true→acc.testBit j=true ∨ ∃ e ∈ l,Region.binds .any e=true∧(j=e.on ∨ (psAt ps e.on).testBit j=true):=by
 intro l
 induction l with
 |nil=>exact fun acc h=>.inl h
 |cons e l ih =>
  intro acc h
  rcases ih _ h with h1 | ⟨e',h1,h2⟩
  ·unfold edgeMask at h1
   split at h1
   ·rename_i hb
    simp only [Nat.testBit_or,Bool.or_eq_true,Nat.testBit_two_pow,decide_eq_true_eq] at h1
    rcases h1 with h1 | h1 | h1
    ·exact .inl h1
    ·exact .inr ⟨e,by simp,hb,.inl h1.symm⟩
    ·exact .inr ⟨e,by simp,hb,.inr h1⟩
   ·exact .inl h1
  ·exact .inr ⟨e',by simp [h1],h2⟩
structure Draw (P:Program) (nt:Nat) (cm:Nat→Nat) (ops:Array Oper) (gs:List G) (pm ps:List Nat):Prop where
 len:gs.length=ops.size
 edge:∀ i < gs.length,∃ o,ops[i]? = some o∧(∀ j,(psAt ps i).testBit j=true→∃ e ∈ o.after,Region.binds .any e=true∧(j=e.on ∨ (psAt ps e.on).testBit j=true))∧∀ e ∈ o.after,Region.binds .any e=true→e.on < i
 op:∀ i < gs.length,∃ o,ops[mi pm i]? = some o∧okG P ops nt o (gAt gs i)=true
 sur:∀ i < gs.length,∃ p < gs.length,mi pm p=i
 inj:∀ i < gs.length,∀ j < gs.length,mi pm i=mi pm j→i=j
 cl:∀ i < gs.length,cls cm (gAt gs i).op ≤ 2
 dst:∀ i < gs.length,∀ j < gs.length,i ≠ j→∀ t,(gAt gs j).dst=some t→(gAt gs i).dst ≠ some t
 raw:∀ i < gs.length,∀ j < gs.length,j < i→∀ t ∈ reads (gAt gs i),(gAt gs j).dst=some t→bef pm ps i j=true
 war:∀ i < gs.length,∀ j < gs.length,i < j→∀ t ∈ reads (gAt gs i),(gAt gs j).dst=some t→bef pm ps j i=true
 eff1:∀ i < gs.length,∀ j < gs.length,j < i→cls cm (gAt gs i).op=2→cls cm (gAt gs j).op ≠ 0→makes (gAt gs j).op=false→bef pm ps i j=true ∨ okLate gs i j=true
 eff2:∀ i < gs.length,∀ j < gs.length,i < j→cls cm (gAt gs i).op=2→cls cm (gAt gs j).op ≠ 0→bef pm ps j i=true
theorem pigeon:∀ (n:Nat) (pm:List Nat),(∀ i < n,i ∈ pm)→(∀ i < n,∀ j < n,pm.getD i 0=pm.getD j 0→i=j)→(∀ i < n,pm.getD i 0 < n)→∀ i < n,∃ p < n,pm.getD p 0=i:=by
 intro n pm _ hinj hlt
 have key:∀ (k:Nat) (f:Nat→Nat),(∀ i < k,∀ j < k,f i=f j→i=j)→(∀ i < k,f i < k)→∀ i < k,∃ p < k,f p=i:=by
  intro k
  induction k with
  |zero=>intro f _ _ i hi;omega
  |succ k ih =>
   intro f h1 h2 i hi
   by_cases hk:f k=k
   ·by_cases hik:i=k
    ·exact ⟨k,by omega,by rw [hk,hik]⟩
    ·have h3:∀ j < k,f j < k:=fun j hj=>by
      have:=h2 j (by omega)
      have:f j ≠ k:=fun e=>by have:=h1 j (by omega) k (by omega) (by rw [e,hk]);omega
      omega
     obtain ⟨p,hp,e⟩:=ih f (fun a ha b hb=>h1 a (by omega) b (by omega)) h3 i (by omega)
     exact ⟨p,by omega,e⟩
   ·-- swap
    have hfk:f k < k:=by have:=h2 k (by omega);omega
    let g:Nat→Nat:=fun j=>if f j=k then f k else f j
    have hg2:∀ j < k,g j < k:=fun j hj=>by
     show (if f j=k then f k else f j) < k
     split
     ·exact hfk
     ·have:=h2 j (by omega);omega
    have hg1:∀ a < k,∀ b < k,g a=g b→a=b:=fun a ha b hb e=>by
     have e':(if f a=k then f k else f a)=(if f b=k then f k else f b):=e
     split at e'<;>split at e'
     ·rename_i x y;exact h1 a (by omega) b (by omega) (x.trans y.symm)
     ·have:=h1 k (by omega) b (by omega) e';omega
     ·have:=h1 a (by omega) k (by omega) e';omega
     ·exact h1 a (by omega) b (by omega) e'
    by_cases hik:i=k
    ·-- who maps to k? the images under g are below k: f k is met by g at some p
     obtain ⟨p,hp,e⟩:=ih g hg1 hg2 (f k) hfk
     have e':(if f p=k then f k else f p)=f k:=e
     split at e'
     ·rename_i x;exact ⟨p,by omega,by rw [x,hik]⟩
     ·have:=h1 p (by omega) k (by omega) e';omega
    ·by_cases hifk:i=f k
     ·exact ⟨k,by omega,hifk.symm⟩
     ·obtain ⟨p,hp,e⟩:=ih g hg1 hg2 i (by omega)
      have e':(if f p=k then f k else f p)=i:=e
      split at e'
      ·exact absurd e'.symm hifk
      ·exact ⟨p,by omega,e'⟩
 exact key n (fun i=>pm.getD i 0) hinj hlt
theorem draw_of {pm:List Nat} {P:Program} {nt:Nat} (hd:okDraw P nt cm ops gs pm ps=true):Draw P nt cm ops gs pm ps:=by
 unfold okDraw at hd
 simp only [Bool.and_eq_true,beq_iff_eq] at hd
 obtain ⟨hlen,hd⟩:=hd
 have hd':∀ i < gs.length,(match ops[i]? with | some o=>okEdges ps i o | none=>false)=true∧(match ops[mi pm i]? with | some o=>okG P ops nt o (gAt gs i) | none=>false)=true∧pm.contains i=true∧cls cm (gAt gs i).op ≤ 2∧∀ j < gs.length,okPair cm gs pm ps i j=true:=by
  intro i hi
  rw [List.all_eq_true] at hd
  have:=hd i (by simpa using hi)
  simp only [Bool.and_eq_true,decide_eq_true_eq] at this
  refine ⟨this.1.1.1.1,this.1.1.1.2,this.1.1.2,this.1.2,fun j hj=>?_⟩
  have h2:=this.2
  rw [List.all_eq_true] at h2
  exact h2 j (by simpa using hj)
 have hp:∀ i < gs.length,∀ j < gs.length,i ≠ j→mi pm i ≠ mi pm j∧(∀ t,(gAt gs j).dst=some t→(gAt gs i).dst ≠ some t∧(t ∈ reads (gAt gs i)→(if j < i then bef pm ps i j else bef pm ps j i)=true)) ∧
   (cls cm (gAt gs i).op=2→cls cm (gAt gs j).op ≠ 0→(if j < i then makes (gAt gs j).op || bef pm ps i j || okLate gs i j else bef pm ps j i)=true):=by
  intro i hi j hj hne
  have:=(hd' i hi).2.2.2.2 j hj
  simp only [okPair,hne,decide_false,Bool.false_or,Bool.and_eq_true,decide_eq_true_eq] at this
  obtain ⟨⟨h0,h1⟩,h2⟩:=this
  refine ⟨h0,?_,?_⟩
  ·intro t ht
   rw [ht] at h1
   simp only [Bool.and_eq_true,Bool.or_eq_true,Bool.not_eq_true',decide_eq_true_eq] at h1
   refine ⟨h1.1,fun hm=>?_⟩
   rcases h1.2 with h3 | h3
   ·have:(reads (gAt gs i)).contains t=true:=by simpa using hm
    rw [this] at h3;simp at h3
   ·exact h3
  ·intro hc hz
   simp only [Bool.or_eq_true,Bool.not_eq_true',beq_eq_false_iff_ne,beq_iff_eq] at h2
   rcases h2 with (h3 | h3) | h3
   ·exact absurd hc h3
   ·exact absurd h3 hz
   ·exact h3
 have hop:∀ i < gs.length,∃ o,ops[mi pm i]? = some o∧okG P ops nt o (gAt gs i)=true:=by
  intro i hi
  have:=(hd' i hi).2.1
  split at this
  ·exact ⟨_,by assumption,this⟩
  ·simp at this
 have hinj:∀ i < gs.length,∀ j < gs.length,mi pm i=mi pm j→i=j:=fun i hi j hj e=>by
  by_cases hij:i=j
  ·exact hij
  ·exact absurd e (hp i hi j hj hij).1
 refine ⟨hlen,fun i hi=>?_,hop,?_,hinj,fun i hi=>(hd' i hi).2.2.2.1,fun i hi j hj hne t ht=>((hp i hi j hj hne).2.1 t ht).1,?_,?_,?_,?_⟩
 ·have:=(hd' i hi).1
  split at this
  ·rename_i o ho
   simp only [okEdges,Bool.and_eq_true,beq_iff_eq] at this
   refine ⟨o,ho,fun j hj=>?_,fun e he hb=>?_⟩
   ·rw [this.1] at hj
    rcases mask_spec _ _ hj with h1 | ⟨e,h1,h2⟩
    ·simp at h1
    ·exact ⟨e,by simpa using h1,h2⟩
   ·have h2:=this.2
    rw [List.all_eq_true] at h2
    have:=h2 e (by simpa using he)
    simpa [hb] using this
  ·simp at this
 ·refine pigeon gs.length pm (fun i hi=>by simpa using (hd' i hi).2.2.1) hinj fun i hi=>?_
  obtain ⟨o,ho,_⟩:=hop i hi
  have:=(Array.getElem?_eq_some_iff.1 ho).1
  rw [hlen];exact this
 ·intro i hi j hj hlt t ht hdst
  have:=((hp i hi j hj (by omega)).2.1 t hdst).2 ht
  simpa [hlt] using this
 ·intro i hi j hj hlt t ht hdst
  have:=((hp i hi j hj (by omega)).2.1 t hdst).2 ht
  simpa [show ¬ j < i by omega] using this
 ·intro i hi j hj hlt h1 h2 h3
  have:=(hp i hi j hj (by omega)).2.2 h1 h2
  simpa [hlt,h3] using this
 ·intro i hi j hj hlt h1 h2
  have:=(hp i hi j hj (by omega)).2.2 h1 h2
  simpa [show ¬ j < i by omega] using this
theorem tr_facts (hcal:CalOk P cal) (hst:Stable cal cm) (ht:Tr cal id gs M H N V) (hn:∀ j,j < gs.length→hget (H 0) (id + j)=none) (hle:id + gs.length ≤ N 0) (hf:Fresh (H 0) (N 0)) :
  ∀ k,k ≤ gs.length→(∀ j,j < gs.length→(k ≤ j ∨ (makes (gAt gs j).op=false∧cls cm (gAt gs j).op ≤ 1))→hget (H k) (id + j)=none)∧Fresh (H k) (N k)∧N 0 ≤ N k:=by
 intro k
 induction k with
 |zero=>exact fun _=>⟨fun j hj _=>hn j hj,hf,Nat.le_refl _⟩
 |succ k ih =>
  intro hk
  obtain ⟨i1,i2,i3⟩:=ih (by omega)
  obtain ⟨b,s1,s2,s3,s4⟩:=ht.step k (by omega)
  cases b with
  |false =>
   obtain ⟨_,e1,e2⟩:=s3 rfl
   rw [e1,e2]
   exact ⟨fun j hj hc=>i1 j hj (by rcases hc with hc | hc;exact .inl (by omega);exact .inr hc),i2,i3⟩
  |true =>
   have e1:=s2 rfl
   obtain ⟨f1,f2⟩:=opg_new hcal (i1 k (by omega) (.inl (Nat.le_refl _))) i2 e1
   refine ⟨fun j hj hc=>?_,fun i hi=>f2 i (i2 i (by omega)) (by omega) (.inr hi),by omega⟩
   by_cases hjk:j=k
   ·subst hjk
    rcases hc with hc | hc
    ·omega
    ·rw [(opg_stable hst hc.2 hc.1 e1).1];exact i1 j hj (.inr hc)
   ·exact f2 _ (i1 j hj (by rcases hc with hc | hc;exact .inl (by omega);exact .inr hc)) (by omega) (.inl (by omega))
theorem tr_sub1 (hst:Stable cal cm) (ht:Tr cal id gs M H N V) (hn:∀ k < gs.length,hget (H k) (id + k)=none) {k:Nat} (hk:k < gs.length) (hc:cls cm (gAt gs k).op ≤ 1):Sub (H k) (H (k + 1)):=by
 obtain ⟨b,s1,s2,s3,s4⟩:=ht.step k hk
 cases b with
 |false=>rw [(s3 rfl).2.1];exact Sub.refl _
 |true =>
  by_cases hm:makes (gAt gs k).op=true
  ·obtain ⟨ob,e1,e2,e3⟩:=opg_makes hm (s2 rfl)
   rw [e2]
   intro i o ho
   rw [hget_cons,if_neg (fun e=>by subst e;rw [hn k hk] at ho;cases ho)]
   exact ho
  ·rw [(opg_stable hst hc (by simpa using hm) (s2 rfl)).1];exact Sub.refl _
theorem tr_sub (hst:Stable cal cm) (ht:Tr cal id gs M H N V) (hn:∀ k < gs.length,hget (H k) (id + k)=none) {s e:Nat} (he:e ≤ gs.length) (hc:∀ j,s ≤ j→j < e→cls cm (gAt gs j).op ≤ 1) :
  ∀ n k,e=k + n→s ≤ k→Sub (H k) (H e):=by
 intro n
 induction n with
 |zero=>intro k hk _;rw [hk];exact Sub.refl _
 |succ n ih=>intro k hk hs;exact (tr_sub1 hst ht hn (by omega) (hc k hs (by omega))).trans (ih (k + 1) (by omega) (by omega))
theorem tr_out (hst:Stable cal cm) (ht:Tr cal id gs M H N V) (hn:∀ k < gs.length,hget (H k) (id + k)=none) {s e:Nat} (he:e ≤ gs.length) (hc:∀ j,s ≤ j→j < e→cls cm (gAt gs j).op ≤ 1) (i:Nat) (hi:∀ j,s ≤ j→j < e→i ≠ id + j) :
  ∀ n k,e=k + n→s ≤ k→hget (H e) i=hget (H k) i:=by
 intro n
 induction n with
 |zero=>intro k hk _;rw [hk];rfl
 |succ n ih =>
  intro k hk hs
  rw [ih (k + 1) (by omega) (by omega)]
  obtain ⟨b,s1,s2,s3,s4⟩:=ht.step k (by omega)
  cases b with
  |false=>rw [(s3 rfl).2.1]
  |true =>
   by_cases hm:makes (gAt gs k).op=true
   ·obtain ⟨ob,e1,e2,e3⟩:=opg_makes hm (s2 rfl)
    rw [e2,hget_cons,if_neg (hi k hs (by omega))]
   ·rw [(opg_stable hst (hc k hs (by omega)) (by simpa using hm) (s2 rfl)).1]
theorem seg_end (cm:Nat→Nat) (gs:List G):∀ n s,s + n=gs.length→∃ e,s ≤ e∧e ≤ gs.length∧(∀ j,s ≤ j→j < e→cls cm (gAt gs j).op ≠ 2)∧(e=gs.length ∨ cls cm (gAt gs e).op=2):=by
 intro n
 induction n with
 |zero=>intro s hs;exact ⟨s,Nat.le_refl _,by omega,fun j h1 h2=>by omega,.inl (by omega)⟩
 |succ n ih =>
  intro s hs
  by_cases hc:cls cm (gAt gs s).op=2
  ·exact ⟨s,Nat.le_refl _,by omega,fun j h1 h2=>by omega,.inr hc⟩
  ·obtain ⟨e,h1,h2,h3,h4⟩:=ih (s + 1) (by omega)
   refine ⟨e,by omega,h2,fun j h5 h6=>?_,h4⟩
   by_cases hj:j=s
   ·subst hj;exact hc
   ·exact h3 j (by omega) h6
theorem tr_val (hD:Draw P nt cm ops gs pm ps) (ht:Tr cal id gs M H N V) (t:Nat):∀ j,j ≤ gs.length→(∀ k,k < j→(gAt gs k).dst=some t→gt (M j) t=V k)∧((∀ k,k < j→(gAt gs k).dst ≠ some t)→gt (M j) t=gt (M 0) t):=by
 intro j
 induction j with
 |zero=>exact fun _=>⟨fun k hk=>by omega,fun _=>rfl⟩
 |succ j ih =>
  intro hj
  obtain ⟨i1,i2⟩:=ih (by omega)
  obtain ⟨b,s1,s2,s3,s4⟩:=ht.step j (by omega)
  rw [s4]
  constructor
  ·intro k hk hd
   by_cases hkj:k=j
   ·subst hkj;rw [hd];simp [put,gt]
   ·have hne:=hD.dst j (by omega) k (by omega) (fun e=>hkj e.symm) t hd
    rw [← i1 k (by omega) hd]
    cases hdj:(gAt gs j).dst with
    |none=>rfl
    |some d =>
     simp only [put,gt]
     rw [if_neg (fun e=>hne (by rw [hdj,e]))]
  ·intro hno
   rw [← i2 fun k hk=>hno k (by omega)]
   have hne:=hno j (by omega)
   cases hdj:(gAt gs j).dst with
   |none=>rfl
   |some d =>
    simp only [put,gt]
    rw [if_neg (fun e=>hne (by rw [hdj,e]))]
theorem gt_keepOf (m:Tm) (t:Nat):∀ ts:List Nat,t ∈ ts→gt (keepOf m ts) t=gt m t:=by
 intro ts
 induction ts with
 |nil=>simp
 |cons u ts ih =>
  intro hm
  simp only [keepOf,gt]
  by_cases e:u=t
  ·subst e;simp
  ·rw [if_neg e]
   simp only [List.mem_cons] at hm
   exact ih (hm.resolve_left fun x=>e x.symm)
theorem gt_keepOf_not (m:Tm) (t:Nat):∀ ts:List Nat,t ∉ ts→gt (keepOf m ts) t=.undef:=by
 intro ts
 induction ts with
 |nil=>intro _;rfl
 |cons u ts ih =>
  intro hm
  simp only [List.mem_cons,not_or] at hm
  simp only [keepOf,gt]
  rw [if_neg (fun e=>hm.1 e.symm)]
  exact ih hm.2
theorem Inv.sub (hI:Inv B w0 g h w) (hs:Sub h h'):Inv B w0 g h' w :=
 ⟨fun i l hl=>by obtain ⟨o,ho⟩:=hI.dom i l hl;exact ⟨o,hs i o ho⟩,fun i o l ho hl=>by
  obtain ⟨o2,ho2⟩:=hI.dom i l hl
  have:=hs i o2 ho2
  rw [ho] at this;cases this
  exact hI.obj i o l ho2 hl,hI.inj,fun i l b hl hb=>by
  obtain ⟨o2,ho2⟩:=hI.dom i l hl
  have:=hI.own i l b hl hb
  rw [hs i o2 ho2,← ho2];exact this,hI.zlt,hI.below,hI.size⟩
structure TS (g:Gh) (w:World) (a:Act) (gs:List G) (V:Nat→FV) (m:Tm) (S:Nat→Prop):Prop where
 tm1:∀ j < gs.length,S j→∀ d,(gAt gs j).dst=some d→R g w (V j) (a.tmps.getD d undef)
 tm0:∀ t,(∀ j < gs.length,S j→(gAt gs j).dst ≠ some t)→R g w (gt m t) (a.tmps.getD t undef)
 gl:GlOk g w
theorem TS.put (hD:Draw P nt cm ops gs pm ps) {S S':Nat→Prop} (hT:TS g w a gs V m S) (hs:a.tmps.size=nt) {j:Nat} (hj:j < gs.length) (hS:∀ k,S' k ↔ S k ∨ k=j) (hd:okDst nt (gAt gs j).dst=true) (hg:GLe g g' w w') {x:Value} (hx:R g' w' (V j) x) :
  TS g' w' (a.put (gAt gs j).dst x) gs V m S':=by
 have same:∀ t,(gAt gs j).dst ≠ some t→(a.put (gAt gs j).dst x).tmps.getD t undef=a.tmps.getD t undef:=by
  intro t ht
  cases hdj:(gAt gs j).dst with
  |none=>rfl
  |some d =>
   have:d ≠ t:=fun e=>ht (by rw [hdj,e])
   simp [Act.put,Array.getElem?_setIfInBounds_ne this]
 constructor
 ·intro k hk hSk d hdk
  by_cases hkj:k=j
  ·subst hkj
   rw [hdk] at hd ⊢
   have hlt:d < a.tmps.size:=by simp [okDst] at hd;omega
   simpa [Act.put,Array.getD,hlt] using hx
  ·have hSk':S k:=((hS k).1 hSk).resolve_right hkj
   rw [same d (hD.dst j hj k hk (fun e=>hkj e.symm) d hdk)]
   exact (hT.tm1 k hk hSk' d hdk).mono hg
 ·intro t hno
  rw [same t (hno j hj ((hS j).2 (.inr rfl)))]
  exact (hT.tm0 t fun k hk hSk=>hno k hk ((hS k).2 (.inl hSk))).mono hg
 ·exact fun k cs hk=>(hT.gl k cs hk).mono hg
structure Ready (gs:List G) (pm ps:List Nat) (S:Nat→Prop) (j:Nat):Prop where
 lt:j < gs.length
 nin:¬ S j
 pred:∀ i < gs.length,bef pm ps j i=true→S i
 dc:∀ k < gs.length,S k→∀ i < gs.length,bef pm ps k i=true→S i
theorem TS.read (hD:Draw P nt cm ops gs pm ps) (ht:Tr cal id gs M H N V) {S:Nat→Prop} (hT:TS g w a gs V (M 0) S) {j:Nat} (hr:Ready gs pm ps S j):RT g w (keepOf (M j) (reads (gAt gs j))) a:=by
 refine ⟨fun t=>?_,hT.gl⟩
 by_cases hm:t ∈ reads (gAt gs j)
 ·rw [gt_keepOf _ _ _ hm]
  obtain ⟨v1,v2⟩:=tr_val hD ht t j (Nat.le_of_lt hr.lt)
  by_cases hex:∃ k,k < j∧(gAt gs k).dst=some t
  ·obtain ⟨k,hk,hd⟩:=hex
   rw [v1 k hk hd]
   have hkl:k < gs.length:=by have:=hr.lt;omega
   exact hT.tm1 k hkl (hr.pred k hkl (hD.raw j hr.lt k hkl hk t hm hd)) t hd
  ·rw [v2 fun k hk hd=>hex ⟨k,hk,hd⟩]
   refine hT.tm0 t fun k hk hSk hd=>?_
   rcases Nat.lt_trichotomy k j with h1 | h1 | h1
   ·exact hex ⟨k,h1,hd⟩
   ·subst h1;exact hr.nin hSk
   ·exact hr.nin (hr.dc k hk hSk j hr.lt (hD.war j hr.lt k hk h1 t hm hd))
 ·rw [gt_keepOf_not _ _ _ hm];exact .undef _
theorem ev_keepOf (m:Tm) (gg:G):∀ x ∈ gg.op.xs,ev (keepOf m (reads gg)) x=ev m x:=by
 intro x hx
 cases x with
 |c v=>rfl
 |t n =>
  simp only [ev]
  refine gt_keepOf _ _ _ ?_
  unfold reads
  rw [List.mem_append]
  exact .inr (List.mem_filterMap.2 ⟨.t n,hx,rfl⟩)
theorem wanted_keepOf (m:Tm) (gg:G):wanted (keepOf m (reads gg)) gg.guard=wanted m gg.guard:=by
 cases hg:gg.guard with
 |none=>rfl
 |some p =>
  obtain ⟨t,b⟩:=p
  simp only [wanted]
  rw [gt_keepOf _ _ _ (by simp [reads,hg])]
structure DI (B:Nat) (w0:World) (nt:Nat) (a0:Act) (g0:Gh) (wi:World) (NN:Nat→Prop) (id:Nat) (cm:Nat→Nat) (gs:List G) (cal:Call) (M:Nat→Tm) (N:Nat→Nat) (H:Nat→Heap) (V:Nat→FV) (m:Tm) (S:Nat→Prop) (s e:Nat) (g:Gh) (a:Act) (w:World):Prop where
 se:s ≤ e
 el:e ≤ gs.length
 seg:∀ j,s ≤ j→j < e→cls cm (gAt gs j).op ≠ 2
 fin:e=gs.length ∨ cls cm (gAt gs e).op=2
 pa:∀ j < s,cls cm (gAt gs j).op=2→S j
 pb:∀ j < gs.length,cls cm (gAt gs j).op=2→S j→j < s
 ts:TS g w a gs V m S
 kn:∀ j < gs.length,makes (gAt gs j).op=true→¬ S j→g.κ (id + j)=none
 pl:∀ j < e,makes (gAt gs j).op=true→¬ S j→∀ ob,hget (H (j + 1)) (id + j)=some ob→hget (H e) (id + j)=some ob
 pr:∀ j < e,cls cm (gAt gs j).op=1→makes (gAt gs j).op=false→¬ S j→wanted (M j) (gAt gs j).guard=some true→opg cal (id + j) (gAt gs j) (M j) (H e) (N e)=some (V j,H e,N e)
 kN:KNew g0 g (H 0) (H e) NN
 nx:Nx B w0 g0 g (H e) wi w
 size:a.tmps.size=nt
 defers:a.defers=a0.defers
theorem draw_step (hcal:CalOk P cal) (hst:Stable cal cm) (hD:Draw P nt cm ops gs pm ps) (ht:Tr cal id gs M H N V) (hn:∀ j,j < gs.length→hget (H 0) (id + j)=none) (hle:id + gs.length ≤ N 0) (hf:Fresh (H 0) (N 0))
  {r:Option Nat} {n:Nat} {a0:Act} {g0:Gh} {wi:World} {NN:Nat→Prop} (hN1:∀ j,id ≤ j→j < id + gs.length→NN j) (hN2:∀ k < gs.length,∀ j,N k ≤ j→j < N (k + 1)→NN j)
  {S S':Nat→Prop} {s e j:Nat} (hS:∀ k,S' k ↔ S k ∨ k=j) (hI:DI B w0 nt a0 g0 wi NN id cm gs cal M N H V (M 0) S s e g a w) (hr:Ready gs pm ps S j) {Q:Exit→Act→World→Prop} {K:Act→World→Prop}
  (hK:∀ s' e' g' a' w',DI B w0 nt a0 g0 wi NN id cm gs cal M N H V (M 0) S' s' e' g' a' w'→K a' w'):wpOpIn (fb r) n P ops Q (mi pm j) K a w:=by
 obtain ⟨o,ho,hokj⟩:=hD.op j hr.lt
 obtain ⟨k1,k2,k3,k4⟩:=okG_dst hokj
 have hm:=hI.ts.read hD ht hr
 have facts:=tr_facts hcal hst ht hn hle hf
 have hnk:∀ k < gs.length,hget (H k) (id + k)=none:=fun k hk=>(facts k (by omega)).1 k hk (.inl (Nat.le_refl _))
 obtain ⟨b,s1,s2,s3,s4⟩:=ht.step j hr.lt
 have hw:=wanted_sound (ops:=ops) hm hI.size k3 (by rw [wanted_keepOf];exact s1)
 have low:∀ {s e:Nat},e ≤ gs.length→(∀ j,s ≤ j→j < e→cls cm (gAt gs j).op ≠ 2)→∀ j,s ≤ j→j < e→cls cm (gAt gs j).op ≤ 1:=fun he h j h1 h2=>by
  have:=hD.cl j (by omega);have:=h j h1 h2;omega
 have hjs:cls cm (gAt gs j).op=2→s ≤ j:=fun hc=>by
  rcases Nat.lt_or_ge j s with h1 | h1
  ·exact absurd (hI.pa j h1 hc) hr.nin
  ·exact h1
 have mk2:∀ j,cls cm (gAt gs j).op=2→makes (gAt gs j).op=false:=fun j hc=>by
  cases hmk:makes (gAt gs j).op with
  |false=>rfl
  |true=>rw [makes_cls hmk] at hc;omega
 have hje:cls cm (gAt gs j).op ≠ 0→j ≤ e:=fun hc=>by
  rcases Nat.lt_or_ge e j with h1 | h1
  ·have hel:e < gs.length:=by have:=hr.lt;omega
   have h2:=hI.fin.resolve_left (by omega)
   have:=hr.pred e hel (hD.eff2 e hel j hr.lt h1 h2 hc)
   have:=hI.pb e hel h2 this
   have:=hI.se;omega
  ·exact h1
 have hlate:∀ k < e,makes (gAt gs k).op=true→¬ S k→∀ ob,hget (H (k + 1)) (id + k)=some ob→hget (H e) (id + k)=some ob:=fun k hk hmk hSk ob hob=>hI.pl k hk hmk hSk ob hob
 have calm:cls cm (gAt gs j).op ≠ 2→∀ g' w' x,R g' w' (V j) x→Nx B w0 g g' (H e) w w'→KNew g g' (H e) (H e) (· = id + j)→K (a.put o.dst x) w':=by
  intro hc g' w' x hx hnx hkn
  rw [k1]
  refine hK s e g' _ w' ⟨hI.se,hI.el,hI.seg,hI.fin,fun k hk hck=>(hS k).2 (.inl (hI.pa k hk hck)),fun k hk hck hSk=>?_,hI.ts.put hD hI.size hr.lt hS k2 hnx.le hx,fun k h2 hmk h3=>?_,fun k hk hmk h3=>hI.pl k hk hmk fun h=>h3 ((hS k).2 (.inl h)),fun k hk h1 h2 h3=>hI.pr k hk h1 h2 fun h=>h3 ((hS k).2 (.inl h)),fun i hi hk=>?_,hI.nx.trans hnx,by rw [put_size];exact hI.size,by rw [put_defers];exact hI.defers⟩
  ·rcases (hS k).1 hSk with h1 | h1
   ·exact hI.pb k hk hck h1
   ·subst h1;exact absurd hck hc
  ·have hkj:k ≠ j:=fun e=>h3 ((hS k).2 (.inr e))
   exact (hkn _ (by omega) (hI.kn k h2 hmk fun h=>h3 ((hS k).2 (.inl h)))).1
  ·have q1:=hI.kN i hi hk
   exact ⟨(hkn i (fun e=>hi (e ▸ hN1 _ (by omega) (by have:=hr.lt;omega))) q1.1).1,q1.2⟩
 have loud:cls cm (gAt gs j).op=2→j=e→∀ g' w' x,R g' w' (V j) x→Nx B w0 g g' (H (j + 1)) w w'→KNew g g' (H j) (H (j + 1)) (fun i=>i=id + j ∨ N j ≤ i∧i < N (j + 1))→K (a.put o.dst x) w':=by
  intro hc hej g' w' x hx hnx hkn
  subst hej
  rw [k1]
  have hlt:=hr.lt
  have hNj:=(facts j (by omega)).2.2
  obtain ⟨e',q1,q2,q3,q4⟩:=seg_end cm gs (gs.length - (j + 1)) (j + 1) (by omega)
  have hsub:Sub (H (j + 1)) (H e'):=tr_sub hst ht hnk q2 (low q2 q3) (e' - (j + 1)) (j + 1) (by omega) (Nat.le_refl _)
  have hnx2:Nx B w0 g g' (H e') w w':=⟨hnx.inv.sub hsub,hnx.le,hnx.z,hnx.sz⟩
  refine hK (j + 1) e' g' _ w' ⟨q1,q2,q3,q4,fun k hk hck=>?_,fun k hk hck hSk=>?_,hI.ts.put hD hI.size hr.lt hS k2 hnx.le hx,fun k h2 hmk h3=>?_,fun k hk hmk h3 ob hob=>?_,fun k hk hck hmk h3 hwk=>?_,fun i hi hk=>?_,hI.nx.trans hnx2,by rw [put_size];exact hI.size,by rw [put_defers];exact hI.defers⟩
  ·by_cases hkj:k=j
   ·exact (hS k).2 (.inr hkj)
   ·rcases hD.eff1 j hlt k (by omega) (by omega) hc (by omega) (mk2 k hck) with hb | hb
    ·exact (hS k).2 (.inl (hr.pred k (by omega) hb))
    ·unfold okLate at hb
     simp only [Bool.and_eq_true] at hb
     have:=hb.1
     split at this
     ·rename_i ho1 _;rw [ho1] at hck;simp [cls] at hck
     ·simp at this
  ·rcases (hS k).1 hSk with h1 | h1
   ·have:=hI.pb k hk hck h1;have:=hI.se;omega
   ·omega
  ·have hkj:k ≠ j:=fun e=>h3 ((hS k).2 (.inr e))
   exact (hkn _ (by omega) (hI.kn k h2 hmk fun h=>h3 ((hS k).2 (.inl h)))).1
  ·have hkj:k ≠ j:=fun e=>h3 ((hS k).2 (.inr e))
   rcases Nat.lt_or_ge k j with h1 | h1
   ·have hSk:¬ S k:=fun h=>h3 ((hS k).2 (.inl h))
    have h4:=hlate k h1 hmk hSk ob hob
    have h5:=(hkn (id + k) (by omega) (hI.kn k (by omega) hmk hSk)).2
    exact hsub _ _ (by rw [h5];exact h4)
   ·exact (tr_sub hst ht hnk q2 (low q2 q3) (e' - (k + 1)) (k + 1) (by omega) (by omega)) _ _ hob
  ·-- a load that may still come
   have hsub2:∀ h1:Heap,Sub h1 (H e')→∀ nx1,opg cal (id + k) (gAt gs k) (M k) h1 nx1=some (V k,h1,nx1)→opg cal (id + k) (gAt gs k) (M k) (H e') (N e')=some (V k,H e',N e'):=fun h1 hs1 nx1 ho1 =>
    (opg_stable hst (by omega) hmk ho1).2.2 _ _ (.inr hs1)
   have hSk:¬ S k:=fun h=>h3 ((hS k).2 (.inl h))
   rcases Nat.lt_or_ge k j with h1 | h1
   ·have hold:=hI.pr k h1 hck hmk hSk hwk
    obtain ⟨b,t1,t2,t3,t4⟩:=ht.step j hlt
    cases b with
    |false=>exact hsub2 (H j) (by rw [← (t3 rfl).2.1];exact hsub) (N j) hold
    |true =>
     rcases hD.eff1 j hlt k (by omega) h1 hc (by omega) hmk with hb | hb
     ·exact absurd (hr.pred k (by omega) hb) hSk
     ·unfold okLate at hb
      simp only [Bool.and_eq_true] at hb
      obtain ⟨hb1,hb2⟩:=hb
      split at hb1
      ·rename_i ag n d ho1 hd1
       have hmem:((gAt gs k).guard,ag,n,d) ∈ (gAt gs j).re:=by simpa using hb1
       have hrd:∀ t ∈ reads (gAt gs k),gt (M (j + 1)) t=gt (M k) t:=by
        intro t htr
        obtain ⟨v1,v2⟩:=tr_val hD ht t (j + 1) (by omega)
        obtain ⟨v3,v4⟩:=tr_val hD ht t k (by omega)
        by_cases hex:∃ q,q < k∧(gAt gs q).dst=some t
        ·obtain ⟨q,hq,hqd⟩:=hex
         rw [v1 q (by omega) hqd,v3 q hq hqd]
        ·rw [v4 fun q hq hqd=>hex ⟨q,hq,hqd⟩,v2 fun q hq hqd=>?_]
         rw [List.all_eq_true] at hb2
         have:=hb2 q (by simp;omega)
         rw [hqd] at this
         have hcon:(reads (gAt gs k)).contains t=true:=by simpa using htr
         simp only [hcon,Bool.not_true,Bool.false_or,decide_eq_true_eq] at this
         exact hex ⟨q,this,hqd⟩
       have hw2:wanted (M (j + 1)) (gAt gs k).guard=some true:=by
        rw [← hwk]
        cases hgd:(gAt gs k).guard with
        |none=>rfl
        |some p =>
         obtain ⟨t,b⟩:=p
         simp only [wanted]
         rw [hrd t (by simp [reads,hgd])]
       have hst2:=still_some (ht.rech j hlt t1 _ _ _ _ hmem hw2)
       have hval:gt (M (j + 1)) d=V k:=(tr_val hD ht d (j + 1) (by omega)).1 k (by omega) hd1
       rw [hval] at hst2
       have hev:opv (H (j + 1)) (M k) (gAt gs k).op=some (V k):=by
        rw [ho1,← hst2]
        refine opv_congr fun x hx=>?_
        simp only [O.xs,List.mem_singleton] at hx
        subst hx
        simp only [ev]
        exact (hrd n (by simp [reads,ho1,O.xs])).symm
       refine hsub2 (H (j + 1)) hsub (N (j + 1)) ?_
       unfold opg
       rw [ho1] at hev ⊢
       simp only [hev,bnd]
      ·simp at hb1
   ·obtain ⟨b,t1,t2,t3,t4⟩:=ht.step k (by omega)
    rw [hwk] at t1
    simp only [Option.some.injEq] at t1
    subst t1
    exact (opg_stable hst (by omega) hmk (t2 rfl)).2.2 _ _ (.inr ((tr_sub1 hst ht hnk (by omega) (by omega)).trans (tr_sub hst ht hnk q2 (low q2 q3) (e' - (k + 1)) (k + 1) (by omega) (by omega))))
  ·have r1:=hI.kN i hi hk
   have r2:=hkn i (fun ee=>hi (by
    rcases ee with ee | ee
    ·exact ee ▸ hN1 _ (by omega) (by omega)
    ·exact hN2 j hlt i ee.1 ee.2)) r1.1
   refine ⟨r2.1,?_⟩
   rw [tr_out hst ht hnk q2 (low q2 q3) i (fun k h1 h2 e=>hi (e ▸ hN1 _ (by omega) (by omega))) (e' - (j + 1)) (j + 1) (by omega) (Nat.le_refl _),r2.2,r1.2]
 unfold wpOpIn
 rw [ho]
 simp only [hw]
 have heq:cls cm (gAt gs j).op=2→j=e:=fun hc=>by
  have h1:=hjs hc
  have h2:=hje (by omega)
  rcases Nat.lt_or_ge j e with h3 | h3
  ·exact absurd hc (hI.seg j h1 h3)
  ·omega
 cases b with
 |false =>
  obtain ⟨e1,e2,e3⟩:=s3 rfl
  simp only [Bool.false_eq_true,if_false]
  refine ⟨fun _ _=>trivial,?_⟩
  by_cases hc:cls cm (gAt gs j).op=2
  ·have hej:=heq hc
   have hIe:=hI.nx.inv
   rw [← hej] at hIe
   exact loud hc hej g w undef (by rw [e1];exact .tup [] [] .nil) (by rw [e2];exact .refl hIe) (fun _ _ h=>⟨h,by rw [e2]⟩)
  ·exact calm hc g w undef (by rw [e1];exact .tup [] [] .nil) (.refl hI.nx.inv) (fun _ _ h=>⟨h,rfl⟩)
 |true =>
  have e1:=s2 rfl
  simp only [if_true]
  have e1':opg cal (id + j) (gAt gs j) (keepOf (M j) (reads (gAt gs j))) (H j) (N j)=some (V j,H (j + 1),N (j + 1)):=by
   rw [opg_congr (ev_keepOf _ _)];exact e1
  obtain ⟨od,oop,oty,opos,oaft,ogd⟩:=o
  simp only at k1 k3 k4 calm loud
  by_cases hc:cls cm (gAt gs j).op=2
  ·have hej:=heq hc
   have hIe:=hI.nx.inv
   rw [← hej] at hIe
   exact opg_sound hcal hIe hm (hnk j hr.lt) (facts j (by have:=hr.lt;omega)).2.1 k4 e1' fun g' w' x f1 f2 f3=>loud hc hej g' w' x f1 f2 f3
  ·have hcl:cls cm (gAt gs j).op ≤ 1:=by have:=hD.cl j hr.lt;omega
   by_cases hmk:makes (gAt gs j).op=true
   ·have hc0:cls cm (gAt gs j).op ≠ 0:=by rw [makes_cls hmk];omega
    have h2:=hje hc0
    have hlt:j < e:=by
     rcases Nat.lt_or_ge j e with h3 | h3
     ·exact h3
     ·have hjeq:j=e:=by omega
      have hlt:=hr.lt
      exact absurd (hjeq ▸ hI.fin.resolve_left (by omega)) hc
    obtain ⟨ob,f1,f2,f3⟩:=opg_makes hmk e1'
    have hob:hget (H e) (id + j)=some ob:=hlate j hlt hmk hr.nin ob (by rw [f2,hget_cons,if_pos rfl])
    have hq:∀ i,hget (H e) i=if i=id + j then some ob else hget (H e) i:=fun i=>by
     split
     ·rename_i ee;rw [ee];exact hob
     ·rfl
    have hok2:okNew P oop (gAt gs j).op=true:=okNew_of k4 hmk
    exact wp_does hI.nx.inv (okO_defer k4) (opn_sound hI.nx.inv hm (hI.kn j hr.lt hmk hr.nin) hq hok2 f1) fun g' w' x q1 q2 q3=>calm hc g' w' x q1 q2 q3
   ·have hmk':makes (gAt gs j).op=false:=by simpa using hmk
    obtain ⟨f1,f2,f3⟩:=opg_stable hst hcl hmk' e1'
    have e2:opg cal (id + j) (gAt gs j) (keepOf (M j) (reads (gAt gs j))) (H e) (N e)=some (V j,H e,N e):=by
     by_cases hc0:cls cm (gAt gs j).op=0
     ·exact f3 (H e) (N e) (.inl hc0)
     ·have h2:=hje hc0
      have hlt:j < e:=by
       rcases Nat.lt_or_ge j e with h3 | h3
       ·exact h3
       ·have hjeq:j=e:=by omega
        have hlt:=hr.lt
        exact absurd (hjeq ▸ hI.fin.resolve_left (by omega)) hc
      rw [opg_congr (ev_keepOf _ _)]
      exact hI.pr j hlt (by omega) hmk' hr.nin s1
    have fe:=facts e hI.el
    exact opg_sound hcal hI.nx.inv hm (fe.1 j hr.lt (.inr ⟨hmk',hcl⟩)) fe.2.1 k4 e2 fun g' w' x q1 q2 q3=>calm hc g' w' x q1 q2 fun i hi=>q3 i fun ee=>by
     rcases ee with ee | ee
     ·exact hi ee
     ·omega
end
end Go.FI
