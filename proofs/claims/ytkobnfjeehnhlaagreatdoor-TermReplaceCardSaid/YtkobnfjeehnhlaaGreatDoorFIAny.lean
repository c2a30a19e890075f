/- A region,in the machine: all its orders. -/
import Derived.Test.YtkobnfjeehnhlaaGreatDoorFIDraw
set_option linter.all false
namespace Go.FI
open Go.RowKit
variable [Sys]
section
variable {g g':Gh} {w w':World} {P:Program} {B:Nat} {w0:World} {h h':Heap} {a:Act} {m m':Tm} {v:FV} {ops:Array Oper} {nt:Nat} {cal:Call} {cm:Nat→Nat} {gs:List G} {ps:List Nat}
 {M:Nat→Tm} {H:Nat→Heap} {N:Nat→Nat} {V:Nat→FV} {id:Nat} {pm:List Nat}
def Has (l:Array Bool) (j:Nat):Prop:=l.getD j false=true
theorem not_has {l:Array Bool} {j:Nat} (h:l.getD j true=false):¬ Has l j∧j < l.size:=by
 unfold Has
 by_cases hj:j < l.size
 ·simp [hj] at h ⊢; exact h
 ·simp [Array.getElem?_eq_none (Nat.le_of_not_lt hj)] at h
theorem has_set {l:Array Bool} {j:Nat} (hj:j < l.size) (k:Nat):Has (l.setIfInBounds j true) k ↔ Has l k ∨ k=j:=by
 unfold Has
 by_cases e:j=k
 ·subst e;simp [hj]
 ·rw [getD_set_ne false e]
  constructor
  ·exact .inl
  ·intro h;exact h.resolve_right fun x=>e x.symm
def open_ (l:Array Bool):Nat:=(l.toList.filter fun b=>!b).length
theorem open_set_list:∀ (l:List Bool) (j:Nat),l[j]? = some false→((l.set j true).filter fun b=>!b).length + 1=(l.filter fun b=>!b).length:=by
 intro l
 induction l with
 |nil=>intro j h;simp at h
 |cons b l ih =>
  intro j h
  cases j with
  |zero=>simp at h;subst h;simp
  |succ j =>
   simp at h
   have:=ih j h
   cases b<;>simp<;>omega
theorem open_set {l:Array Bool} {j:Nat} (h:l.getD j true=false):open_ (l.setIfInBounds j true) + 1=open_ l:=by
 obtain ⟨h1,h2⟩:=not_has h
 unfold open_
 have:l.toList[j]? = some false:=by
  simp [Array.getD,h2] at h
  simp [h2,h]
 have:=open_set_list l.toList j this
 simpa using this
theorem open_zero {l:Array Bool} (h:open_ l=0) (j:Nat) (hj:j < l.size):Has l j:=by
 unfold open_ at h
 rw [List.length_eq_zero_iff,List.filter_eq_nil_iff] at h
 have:=h l[j] (by simp)
 unfold Has
 simpa [hj] using this
theorem ready_least (hD:Draw P nt cm ops gs pm ps) {l:Array Bool} (hs:l.size=gs.length) (hr:Region.ready .any ops l=[]):∀ j,j < gs.length→Has l j:=by
 intro j
 induction j using Nat.strongRecOn with
 |_ j ih =>
  intro hj
  by_cases hh:Has l j
  ·exact hh
  ·exfalso
   have hm:j ∈ Region.ready .any ops l:=by
    rw [mem_ready]
    obtain ⟨o,ho,_,he⟩:=hD.edge j hj
    refine ⟨?_,o,ho,fun e hm hb=>?_⟩
    ·unfold Has at hh
     have:j < l.size:=by omega
     simp [this] at hh ⊢; exact hh
    ·have:=he e hm hb
     exact ih e.on this (by omega)
   rw [hr] at hm
   simp at hm
def At (pm:List Nat) (n:Nat) (l:Array Bool) (p:Nat):Prop:=p < n∧Has l (mi pm p)
theorem any_sound (hcal:CalOk P cal) (hst:Stable cal cm) (hD:Draw P nt cm ops gs pm ps) (ht:Tr cal id gs M H N V) (hn:∀ j,j < gs.length→hget (H 0) (id + j)=none) (hle:id + gs.length ≤ N 0) (hf:Fresh (H 0) (N 0))
  {r:Option Nat} {n:Nat} {a0:Act} {g0:Gh} {wi:World} {NN:Nat→Prop} (hN1:∀ j,id ≤ j→j < id + gs.length→NN j) (hN2:∀ k < gs.length,∀ j,N k ≤ j→j < N (k + 1)→NN j) :
  ∀ (fuel:Nat) (l:Array Bool) (s e:Nat) (g:Gh) (a:Act) (w:World),open_ l=fuel→l.size=gs.length→(∀ k < gs.length,Has l k→∀ i,(psAt ps k).testBit i=true→Has l i) →
   DI B w0 nt a0 g0 wi NN id cm gs cal M N H V (M 0) (At pm gs.length l) s e g a w →
   wpAnyIn (fb r) n P .any ops (RegPost B w0 nt a0 g0 (H 0) wi NN (M gs.length) (H gs.length)) fuel l a w:=by
 have done:∀ (l:Array Bool) (s e:Nat) (g:Gh) (a:Act) (w:World),(∀ j,j < gs.length→Has l j)→DI B w0 nt a0 g0 wi NN id cm gs cal M N H V (M 0) (At pm gs.length l) s e g a w →
   RegPost B w0 nt a0 g0 (H 0) wi NN (M gs.length) (H gs.length) .normal a w:=by
  intro l s e g a w hall0 hI
  have hall:∀ j,j < gs.length→At pm gs.length l j:=fun j hj=>⟨hj,hall0 _ (by
   obtain ⟨o,ho,_⟩:=hD.op j hj
   have:=(Array.getElem?_eq_some_iff.1 ho).1
   rw [hD.len];exact this)⟩
  have he:e=gs.length:=by
   rcases hI.fin with h1 | h1
   ·exact h1
   ·rcases Nat.lt_or_ge e gs.length with h2 | h2
    ·have:=hI.pb e h2 h1 (hall e h2)
     have:=hI.se;omega
    ·have:=hI.el;omega
  subst he
  refine ⟨rfl,g,⟨fun t=>?_,hI.ts.gl⟩,hI.size,hI.defers,hI.nx,hI.kN⟩
  obtain ⟨v1,v2⟩:=tr_val hD ht t gs.length (Nat.le_refl _)
  by_cases hex:∃ k,k < gs.length∧(gAt gs k).dst=some t
  ·obtain ⟨k,hk,hd⟩:=hex
   rw [v1 k hk hd]
   exact hI.ts.tm1 k hk (hall k hk) t hd
  ·rw [v2 fun k hk hd=>hex ⟨k,hk,hd⟩]
   exact hI.ts.tm0 t fun k hk _ hd=>hex ⟨k,hk,hd⟩
 intro fuel
 induction fuel with
 |zero =>
  intro l s e g a w ho hs hdc hI
  have hall:∀ j,j < gs.length→Has l j:=fun j hj=>open_zero ho j (by omega)
  refine ⟨?_,done l s e g a w hall hI⟩
  rw [List.eq_nil_iff_forall_not_mem]
  intro j hj
  rw [mem_ready] at hj
  obtain ⟨h1,h2⟩:=not_has hj.1
  exact h1 (hall j (by omega))
 |succ fuel ih =>
  intro l s e g a w ho hs hdc hI
  refine ⟨fun hr=>done l s e g a w (ready_least hD hs hr) hI,fun j hj=>?_⟩
  rw [mem_ready] at hj
  obtain ⟨hu,o,hoj,hedge⟩:=hj
  obtain ⟨h1,h2⟩:=not_has hu
  have hjl:j < gs.length:=by omega
  have hset:=has_set h2
  have hpred:∀ i,(psAt ps j).testBit i=true→Has l i:=by
   intro i hi
   obtain ⟨o',ho',hm,hlt⟩:=hD.edge j hjl
   rw [hoj] at ho';cases ho'
   obtain ⟨ee,he1,he2,he3⟩:=hm i hi
   have hon:=hedge ee he1 he2
   rcases he3 with he3 | he3
   ·subst he3;exact hon
   ·exact hdc ee.on (by have:=hlt ee he1 he2;omega) hon i he3
  obtain ⟨p,hp,hpj⟩:=hD.sur j hjl
  have milt:∀ k < gs.length,mi pm k < gs.length:=fun k hk=>by
   obtain ⟨o,ho,_⟩:=hD.op k hk
   have:=(Array.getElem?_eq_some_iff.1 ho).1
   rw [hD.len];exact this
  have hready:Ready gs pm ps (At pm gs.length l) p:=⟨hp,fun h=>h1 (hpj ▸ h.2),fun i hi hb=>⟨hi,hpred _ (by rw [← hpj];exact hb)⟩,fun k hk hSk i hi hb=>⟨hi,hdc _ (milt k hk) hSk.2 _ hb⟩⟩
  have hS:∀ k,At pm gs.length (l.setIfInBounds j true) k ↔ At pm gs.length l k ∨ k=p:=by
   intro k
   constructor
   ·rintro ⟨hk,hh⟩
    rcases (hset _).1 hh with h3 | h3
    ·exact .inl ⟨hk,h3⟩
    ·exact .inr (hD.inj k hk p hp (h3.trans hpj.symm))
   ·rintro (⟨hk,hh⟩ | rfl)
    ·exact ⟨hk,(hset _).2 (.inl hh)⟩
    ·exact ⟨hp,(hset _).2 (.inr hpj)⟩
  have hstep:=draw_step (r:=r) (n:=n) (Q:=RegPost B w0 nt a0 g0 (H 0) wi NN (M gs.length) (H gs.length)) (K:=wpAnyIn (fb r) n P .any ops (RegPost B w0 nt a0 g0 (H 0) wi NN (M gs.length) (H gs.length)) fuel (l.setIfInBounds j true)) hcal hst hD ht hn hle hf hN1 hN2 hS hI hready ?_
  ·rw [hpj] at hstep;exact hstep
  intro s' e' g' a' w' hI'
  refine ih _ s' e' g' a' w' (by have:=open_set hu;omega) (by simpa using hs) ?_ hI'
  intro k hk hSk i hi
  rcases (hset k).1 hSk with h3 | h3
  ·exact (hset i).2 (.inl (hdc k hk h3 i hi))
  ·subst h3;exact (hset i).2 (.inl (hpred i hi))
theorem okGs_get:∀ (os:List Oper) (gs:List G),okGs P ops nt os gs=true→os.length=gs.length∧∀ j,j < gs.length→∃ o,os[j]? = some o∧okG P ops nt o (gAt gs j)=true:=by
 intro os
 induction os with
 |nil=>intro gs h;cases gs with
  |nil=>exact ⟨rfl,fun j hj=>by simp at hj⟩
  |cons=>simp [okGs] at h
 |cons o os ih =>
  intro gs h
  cases gs with
  |nil=>simp [okGs] at h
  |cons gg gs =>
   simp only [okGs,Bool.and_eq_true] at h
   obtain ⟨h1,h2⟩:=ih gs h.2
   refine ⟨by simp [h1],fun j hj=>?_⟩
   cases j with
   |zero=>exact ⟨o,rfl,h.1⟩
   |succ j =>
    obtain ⟨o',e1,e2⟩:=h2 j (by simpa using hj)
    exact ⟨o',by simpa using e1,by simpa [gAt] using e2⟩
theorem tr_mono (hcal:CalOk P cal) (hst:Stable cal cm) (ht:Tr cal id gs M H N V) (hn:∀ j,j < gs.length→hget (H 0) (id + j)=none) (hle:id + gs.length ≤ N 0) (hf:Fresh (H 0) (N 0)) :
  ∀ d k,k + d ≤ gs.length→N k ≤ N (k + d):=by
 intro d
 induction d with
 |zero=>intro k _;exact Nat.le_refl _
 |succ d ih =>
  intro k hk
  refine Nat.le_trans (ih k (by omega)) ?_
  obtain ⟨b,s1,s2,s3,s4⟩:=ht.step (k + d) (by omega)
  cases b with
  |false=>rw [show k + (d + 1)=k + d + 1 from rfl,(s3 rfl).2.2];exact Nat.le_refl _
  |true=>exact (opg_new hcal ((tr_facts hcal hst ht hn hle hf (k + d) (by omega)).1 (k + d) (by omega) (.inl (Nat.le_refl _))) (tr_facts hcal hst ht hn hle hf (k + d) (by omega)).2.1 (s2 rfl)).1
theorem draw_sound (hcal:CalOk P cal) (hst:Stable cal cm) (hd:okDraw P nt cm ops gs pm ps=true) {r:Option Nat} {n:Nat} {nx nx':Nat} (hrun:rops cal id gs m h nx=some (m',h',nx'))
  (hm:RT g w m a) (hs:a.tmps.size=nt) (hI:Inv B w0 g h w) (hn:∀ j,j < gs.length→hget h (id + j)=none) (hle:id + gs.length ≤ nx) (hf:Fresh h nx) {NN:Nat→Prop} (hN1:∀ j,id ≤ j→j < id + gs.length→NN j) (hN2:∀ j,nx ≤ j→j < nx'→NN j) :
  wpAnyIn (fb r) n P .any ops (RegPost B w0 nt a g h w NN m' h') ops.size (Array.replicate ops.size false) a w:=by
 obtain ⟨M,H,N,V,ht,rfl,rfl,rfl,rfl,rfl,rfl⟩:=rops_tr gs id m h nx m' h' nx' hrun
 have hD:=draw_of hd
 have hlen:ops.size=gs.length:=hD.len.symm
 obtain ⟨e,q1,q2,q3,q4⟩:=seg_end cm gs gs.length 0 (by omega)
 have hnk:=fun k (hk:k < gs.length)=>(tr_facts hcal hst ht hn hle hf k (by omega)).1 k hk (.inl (Nat.le_refl _))
 have low:∀ j,0 ≤ j→j < e→cls cm (gAt gs j).op ≤ 1:=fun k h1 h2=>by have:=hD.cl k (by omega);have:=q3 k h1 h2;omega
 have hsub:Sub (H 0) (H e):=tr_sub hst ht hnk q2 low e 0 (by omega) (Nat.le_refl _)
 have hno:∀ k,¬ Has (Array.replicate ops.size false) k:=by
  intro k hk
  unfold Has at hk
  by_cases hk':k < ops.size<;>simp [hk'] at hk
 have mono:=tr_mono hcal hst ht hn hle hf
 refine any_sound hcal hst hD ht hn hle hf hN1 (fun k hk j h1 h2=>hN2 j ?_ ?_) ops.size _ 0 e g a w ?_ (by simp [hlen]) (fun k _ hk=>absurd hk (hno k)) ?_
 ·have:=mono k 0 (by omega);rw [Nat.zero_add] at this;omega
 ·have:=mono (gs.length - (k + 1)) (k + 1) (by omega)
  rw [show k + 1 + (gs.length - (k + 1))=gs.length by omega] at this
  omega
 ·simp [open_]
 ·refine ⟨Nat.zero_le _,q2,q3,q4,fun j hj=>by omega,fun j _ _ hj=>absurd hj.2 (hno _),⟨fun j _ hj=>absurd hj.2 (hno _),fun t _=>hm t,hm.gl⟩,fun j hj _ _=>kNone hI (hn j hj),fun k hk _ _ ob hob=>(tr_sub hst ht hnk q2 low (e - (k + 1)) (k + 1) (by omega) (by omega)) _ _ hob,fun k hk hck hmk _ hwk=>?_,fun i hi hk=>⟨hk,?_⟩,⟨hI.sub hsub,GLe.refl _ _,fun _ h=>.inl h,Nat.le_refl _⟩,hs,rfl⟩
  ·obtain ⟨b,t1,t2,t3,t4⟩:=ht.step k (by omega)
   rw [hwk] at t1
   simp only [Option.some.injEq] at t1
   subst t1
   exact (opg_stable hst (by omega) hmk (t2 rfl)).2.2 _ _ (.inr (tr_sub hst ht hnk q2 low (e - k) k (by omega) (by omega)))
  exact tr_out hst ht hnk q2 low i (fun j h1 h2 ee=>hi (ee ▸ hN1 _ (by omega) (by omega))) e 0 (by omega) (Nat.le_refl _)
end
end Go.FI
