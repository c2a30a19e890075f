/- A region,in the machine: in the order of its text. -/
import Derived.Test.YtkobnfjeehnhlaaGreatDoorFIRun
set_option linter.all false
namespace Go.FI
open Go.RowKit
variable [Sys]
def okGd (ops:Array Oper) (nt:Nat):Option (Nat × Bool)→Option (Nat × Bool)→Bool
 |none,none=>true
 |some (j,b),some (t,c)=>b == c && ((ops[j]?).bind (·.dst)) == some t && decide (t < nt)
 |_,_=>false
def okDst (nt:Nat):Option Nat→Bool
 |some d=>decide (d < nt)
 |none=>true
def okG (P:Program) (ops:Array Oper) (nt:Nat) (o:Oper) (g:G):Bool :=
 o.dst == g.dst && okDst nt g.dst && okGd ops nt o.guard g.guard && okO P o.op g.op
def okGs (P:Program) (ops:Array Oper) (nt:Nat):List Oper→List G→Bool
 |[],[]=>true
 |o::os,g::gs=>okG P ops nt o g && okGs P ops nt os gs
 |_,_=>false
section
variable {g g':Gh} {w w':World} {P:Program} {B:Nat} {w0:World} {h h':Heap} {a:Act} {m m':Tm} {v:FV} {ops:Array Oper} {nt:Nat} {cal:Call}
theorem RT.mono (hg:GLe g g' w w') (hm:RT g w m a):RT g' w' m a:=⟨fun t=>(hm t).mono hg,fun k cs hk=>(hm.gl k cs hk).mono hg⟩
theorem RT.put (hm:RT g w m a) (hs:a.tmps.size=nt) {d:Option Nat} (hd:okDst nt d=true) {x:Value} (hv:R g w v x):RT g w (put m d v) (a.put d x):=by
 refine ⟨fun t=>?_,hm.gl⟩
 cases d with
 |none=>exact hm t
 |some d =>
  have hlt:d < a.tmps.size:=by simp [okDst] at hd;omega
  simp only [FI.put,gt,Act.put]
  by_cases e:d=t
  ·subst e;rw [if_pos rfl];simpa [Array.getD,hlt] using hv
  ·rw [if_neg e]
   have:=hm t
   simpa [Array.getElem?_setIfInBounds_ne e] using this
theorem put_size (a:Act) (d:Option Nat) (x:Value):(a.put d x).tmps.size=a.tmps.size:=by cases d<;>simp [Act.put]
theorem put_defers (a:Act) (d:Option Nat) (x:Value):(a.put d x).defers=a.defers:=by cases d<;>simp [Act.put]
theorem wanted_sound (hm:RT g w m a) (hs:a.tmps.size=nt) {o:Oper} {gd:Option (Nat × Bool)} (hok:okGd ops nt o.guard gd=true) {b:Bool} (hw:wanted m gd=some b):Region.wanted o (yielded ops a.tmps)=b:=by
 unfold Region.wanted
 cases ho:o.guard with
 |none =>
  cases gd with
  |none=>simpa [wanted] using hw
  |some p=>rw [ho] at hok;simp [okGd] at hok
 |some p =>
  obtain ⟨j,b'⟩:=p
  cases gd with
  |none=>rw [ho] at hok;simp [okGd] at hok
  |some q =>
   obtain ⟨t,c⟩:=q
   rw [ho] at hok
   simp only [okGd,Bool.and_eq_true,beq_iff_eq,decide_eq_true_eq] at hok
   obtain ⟨⟨rfl,h1⟩,h2⟩:=hok
   have ht:=hm t
   have hl:a.tmps[t]? = some (a.tmps.getD t undef):=by
    have:t < a.tmps.size:=by omega
    simp [Array.getD,this]
   simp only [yielded,h1,Option.bind_some,hl]
   simp only [wanted] at hw
   split at hw
   ·rename_i c' hg
    rw [hg] at ht
    rw [R_bool ht]
    simp only [Option.some.injEq] at hw
    subst hw
    simp
   ·rename_i hg
    rw [hg] at ht
    obtain ⟨vs,e1,e2⟩:=R_tup ht
    cases e2
    rw [e1]
    simp only [Option.some.injEq] at hw
    subst hw
    rfl
   ·simp at hw
theorem rops_new (hcal:CalOk P cal):∀ (gs:List G) (id:Nat) (m:Tm) (h:Heap) (nx:Nat) (m':Tm) (h':Heap) (nx':Nat),(∀ j,id ≤ j→j < id + gs.length→hget h j=none)→id + gs.length ≤ nx→Fresh h nx →
  rops cal id gs m h nx=some (m',h',nx') →
  nx ≤ nx'∧∀ i,hget h i=none→(i < id ∨ id + gs.length ≤ i)→(i < nx ∨ nx' ≤ i)→hget h' i=none:=by
 intro gs
 induction gs with
 |nil =>
  intro id m h nx m' h' nx' _ _ _ hr
  simp only [rops,Option.some.injEq,Prod.mk.injEq] at hr
  obtain ⟨rfl,rfl,rfl⟩:=hr
  exact ⟨Nat.le_refl _,fun i hi _ _=>hi⟩
 |cons gg gs ih =>
  intro id m h nx m' h' nx' hn hle hf hr
  simp only [rops] at hr
  obtain ⟨b,hb,hr⟩:=bnd_some hr
  simp only [List.length_cons] at hn hle ⊢
  split at hr
  ·obtain ⟨⟨v1,h1,nx1⟩,k1,hr⟩:=bnd_some hr
   have hr:=(rechk_some hr).1
   obtain ⟨e1,e2⟩:=opg_new hcal (hn id (Nat.le_refl _) (by omega)) hf k1
   obtain ⟨f1,f2⟩:=ih (id + 1) _ h1 nx1 m' h' nx' (fun j hj hj'=>e2 j (hn j (by omega) (by omega)) (by omega) (.inl (by omega))) (by omega) (fun j hj=>e2 j (hf j (by omega)) (by omega) (.inr hj)) hr
   refine ⟨by omega,fun i hi h1 h2=>f2 i (e2 i hi (by omega) (by omega)) (by omega) (by omega)⟩
  ·obtain ⟨f1,f2⟩:=ih (id + 1) _ h nx m' h' nx' (fun j hj hj'=>hn j (by omega) (by omega)) (by omega) hf hr
   exact ⟨by omega,fun i hi h1 h2=>f2 i hi (by omega) (by omega)⟩
theorem okG_dst {o:Oper} {gg:G} (h:okG P ops nt o gg=true):o.dst=gg.dst∧okDst nt gg.dst=true∧okGd ops nt o.guard gg.guard=true∧okO P o.op gg.op=true:=by
 simp only [okG,Bool.and_eq_true,beq_iff_eq] at h
 exact ⟨h.1.1.1,h.1.1.2,h.1.2,h.2⟩
def RegPost (B:Nat) (w0:World) (nt:Nat) (a0:Act) (g0:Gh) (h0:Heap) (wi:World) (N:Nat→Prop) (m':Tm) (h':Heap):Exit→Act→World→Prop:=fun e a' w' =>
 e=.normal∧∃ g',RT g' w' m' a'∧a'.tmps.size=nt∧a'.defers=a0.defers∧Nx B w0 g0 g' h' wi w'∧KNew g0 g' h0 h' N
theorem rops_sound (hcal:CalOk P cal) {r:Option Nat} {n:Nat} {a0:Act} {g0:Gh} {h0:Heap} {wi:World} {N:Nat→Prop}:∀ (gs:List G) (i:Nat) (id:Nat) (m:Tm) (h:Heap) (nx:Nat) (m':Tm) (h':Heap) (nx':Nat) (g:Gh) (w:World) (a:Act),
  okGs P ops nt (ops.toList.drop i) gs=true→rops cal id gs m h nx=some (m',h',nx')→RT g w m a→a.tmps.size=nt→a.defers=a0.defers→Nx B w0 g0 g h wi w →
  (∀ j,id ≤ j→j < id + gs.length→hget h j=none)→id + gs.length ≤ nx→Fresh h nx→KNew g0 g h0 h N→(∀ j,id ≤ j→j < id + gs.length→N j)→(∀ j,nx ≤ j→j < nx'→N j) →
  wpOpsIn (fb r) n P ops (RegPost B w0 nt a0 g0 h0 wi N m' h') (List.range' i gs.length) a w:=by
 intro gs
 induction gs with
 |nil =>
  intro i id m h nx m' h' nx' g w a _ hr hm hs hd hx _ _ _ hkn _ _
  simp only [rops,Option.some.injEq,Prod.mk.injEq] at hr
  obtain ⟨rfl,rfl,rfl⟩:=hr
  exact ⟨rfl,g,hm,hs,hd,hx,hkn⟩
 |cons gg gs ih =>
  intro i id m h nx m' h' nx' g w a hok hr hm hs hd hx hn hle hf hkn hN1 hN2
  have hi:i < ops.size:=by
   rcases Nat.lt_or_ge i ops.size with h1 | h1
   ·exact h1
   ·rw [List.drop_eq_nil_of_le (by simpa using h1)] at hok;simp [okGs] at hok
  have hop:ops[i]? = some ops[i]:=by simp [hi]
  have hdrop:ops.toList.drop i=ops[i]::ops.toList.drop (i + 1):=by
   rw [List.drop_eq_getElem_cons (by simpa using hi)];simp
  rw [hdrop] at hok
  simp only [okGs,Bool.and_eq_true] at hok
  obtain ⟨hok1,hok2⟩:=hok
  obtain ⟨k1,k2,k3,k4⟩:=okG_dst hok1
  simp only [rops] at hr
  obtain ⟨b,hb,hr⟩:=bnd_some hr
  simp only [List.length_cons] at hn hle hN1 ⊢
  have hw:=wanted_sound (ops:=ops) hm hs k3 hb
  rw [show List.range' i (gs.length + 1)=i::List.range' (i + 1) gs.length from rfl,wpOpsIn_cons]
  unfold wpOpIn
  rw [hop]
  simp only [hw]
  generalize ops[i]=o at *
  split at hr
  ·rename_i hbt
   subst hbt
   obtain ⟨⟨v1,h1,nx1⟩,q1,hr⟩:=bnd_some hr
   have hr:=(rechk_some hr).1
   obtain ⟨e1,e2⟩:=opg_new hcal (hn id (Nat.le_refl _) (by omega)) hf q1
   have e5:=(rops_new hcal gs (id + 1) _ h1 nx1 m' h' nx' (fun j hj hj'=>e2 j (hn j (by omega) (by omega)) (by omega) (.inl (by omega))) (by omega) (fun j hj=>e2 j (hf j (by omega)) (by omega) (.inr hj)) hr).1
   simp only [if_true]
   obtain ⟨od,oop,oty,opos,oaft,ogd⟩:=o
   simp only at k1 k3 k4
   refine opg_sound hcal hx.inv hm (hn id (Nat.le_refl _) (by omega)) hf k4 q1 ?_
   intro g1 w1 x hx1 hx2 hx3
   subst k1
   exact ih (i + 1) (id + 1) _ h1 nx1 m' h' nx' g1 w1 _ hok2 hr ((hm.mono hx2.le).put hs k2 hx1) (by rw [put_size];exact hs) (by rw [put_defers];exact hd) (hx.trans hx2)
    (fun j hj hj'=>e2 j (hn j (by omega) (by omega)) (by omega) (.inl (by omega))) (by omega) (fun j hj=>e2 j (hf j (by omega)) (by omega) (.inr hj))
    (fun i hi hk=>by
     have q1:=hkn i hi hk
     have q2:=hx3 i (fun e=>hi (by rcases e with e | e;exact hN1 i (by omega) (by omega);exact hN2 i (by omega) (by omega))) q1.1
     exact ⟨q2.1,q2.2.trans q1.2⟩) (fun j hj hj'=>hN1 j (by omega) (by omega)) (fun j hj hj'=>hN2 j (by omega) hj')
  ·rename_i hbf
   have:b=false:=by simpa using hbf
   subst this
   simp only [Bool.false_eq_true,if_false]
   rw [k1]
   exact ⟨fun _ _=>trivial,ih (i + 1) (id + 1) _ h nx m' h' nx' g w _ hok2 hr (hm.put hs k2 (.tup [] [] .nil)) (by rw [put_size];exact hs) (by rw [put_defers];exact hd) hx
    (fun j hj hj'=>hn j (by omega) (by omega)) (by omega) hf hkn (fun j hj hj'=>hN1 j (by omega) (by omega)) hN2⟩
def okP (P:Program) (op:Op):O→Bool
 |.pn x=>match op with
  |.panic x'=>okX x' x
  |_=>false
 |o=>okO P op o
def okGP (P:Program) (ops:Array Oper) (nt:Nat) (o:Oper) (g:G):Bool :=
 o.dst == g.dst && okDst nt g.dst && okGd ops nt o.guard g.guard && okP P o.op g.op
def okGPs (P:Program) (ops:Array Oper) (nt:Nat):List Oper→List G→Bool
 |[],[]=>true
 |o::os,g::gs=>okGP P ops nt o g && okGPs P ops nt os gs
 |_,_=>false
theorem okGP_dst {o:Oper} {gg:G} (h:okGP P ops nt o gg=true):o.dst=gg.dst∧okDst nt gg.dst=true∧okGd ops nt o.guard gg.guard=true∧okP P o.op gg.op=true:=by
 simp only [okGP,Bool.and_eq_true,beq_iff_eq] at h
 exact ⟨h.1.1.1,h.1.1.2,h.1.2,h.2⟩
theorem okGPs_len:∀ {os:List Oper} {gs:List G},okGPs P ops nt os gs=true→os.length=gs.length:=by
 intro os
 induction os with
 |nil=>intro gs h;cases gs<;>simp [okGPs] at h ⊢
 |cons o os ih=>intro gs h;cases gs with
  |nil=>simp [okGPs] at h
  |cons g gs=>simp only [okGPs,Bool.and_eq_true] at h;simp [ih h.2]
theorem ropsP_cons {cal:Call} {id nx:Nat} {gg:G} {gs:List G} {m:Tm} {h:Heap} {r:Option FV × Tm × Heap × Nat} (hr:ropsP cal id (gg::gs) m h nx=some r) :
  (wanted m gg.guard=some false∧ropsP cal (id + 1) gs (put m gg.dst (.tup [])) h nx=some r) ∨
  (wanted m gg.guard=some true∧(
   (∃ x t q,gg.op=.pn x∧ev m x=.ifc t q∧r=(some (.ifc t q),m,h,nx)) ∨
   (∃ f as u h1 nx1,gg.op=.cl f as∧cal f (evs m as) h nx=some (.pan u,h1,nx1)∧r=(some u,m,h1,nx1)) ∨
   (∃ v h1 nx1,opg (np cal) id ⟨gg.dst,gg.guard,gg.op,[]⟩ m h nx=some (v,h1,nx1)∧ropsP cal (id + 1) gs (put m gg.dst v) h1 nx1=some r))):=by
 obtain ⟨d,gd,o,re⟩:=gg
 simp only [ropsP] at hr
 obtain ⟨b,hb,hr⟩:=bnd_some hr
 cases b with
 |false=>simp only [Bool.false_eq_true,if_false] at hr;exact .inl ⟨hb,hr⟩
 |true =>
  simp only [if_true] at hr
  refine .inr ⟨hb,?_⟩
  split at hr
  ·split at hr
   ·rename_i hx
    simp only [Option.some.injEq] at hr
    exact .inl ⟨_,_,_,rfl,hx,hr.symm⟩
   ·simp at hr
  ·rename_i f as _
   obtain ⟨⟨v,h1,nx1⟩,k1,hr⟩:=bnd_some hr
   simp only at hr
   split at hr
   ·rename_i u
    simp only [Option.some.injEq] at hr
    exact .inr (.inl ⟨f,as,u,h1,nx1,rfl,k1,hr.symm⟩)
   ·rename_i hnp
    refine .inr (.inr ⟨v,h1,nx1,?_,hr⟩)
    simp only [opg,np,k1,bnd]
    have:isPan v=false:=by cases v<;>first | rfl | exact absurd rfl (hnp _)
    simp [chk,this]
  ·obtain ⟨⟨v,h1,nx1⟩,k1,hr⟩:=bnd_some hr
   exact .inr (.inr ⟨v,h1,nx1,k1,hr⟩)
theorem ropsP_new (hcal:CalOkP P cal):∀ (gs:List G) (id:Nat) (m:Tm) (h:Heap) (nx:Nat) (p:Option FV) (m':Tm) (h':Heap) (nx':Nat),(∀ j,id ≤ j→j < id + gs.length→hget h j=none)→id + gs.length ≤ nx→Fresh h nx →
  ropsP cal id gs m h nx=some (p,m',h',nx') →
  nx ≤ nx'∧∀ i,hget h i=none→(i < id ∨ id + gs.length ≤ i)→(i < nx ∨ nx' ≤ i)→hget h' i=none:=by
 intro gs
 induction gs with
 |nil =>
  intro id m h nx p m' h' nx' _ _ _ hr
  simp only [ropsP,Option.some.injEq,Prod.mk.injEq] at hr
  obtain ⟨_,rfl,rfl,rfl⟩:=hr
  exact ⟨Nat.le_refl _,fun i hi _ _=>hi⟩
 |cons gg gs ih =>
  intro id m h nx p m' h' nx' hn hle hf hr
  simp only [List.length_cons] at hn hle ⊢
  rcases ropsP_cons hr with ⟨_,hr⟩ | ⟨_,⟨x,t,q,_,_,hr⟩ | ⟨f,as,u,h1,nx1,_,k1,hr⟩ | ⟨v,h1,nx1,k1,hr⟩⟩
  ·obtain ⟨f1,f2⟩:=ih (id + 1) _ h nx p m' h' nx' (fun j hj hj'=>hn j (by omega) (by omega)) (by omega) hf hr
   exact ⟨by omega,fun i hi h1 h2=>f2 i hi (by omega) (by omega)⟩
  ·cases hr;exact ⟨Nat.le_refl _,fun i hi _ _=>hi⟩
  ·cases hr
   have:=hcal.new _ _ _ _ _ _ _ k1 hf
   exact ⟨this.1,fun i hi _ hx=>this.2 i hi hx⟩
  ·obtain ⟨e1,e2⟩:=opg_new hcal.np (hn id (Nat.le_refl _) (by omega)) hf k1
   obtain ⟨f1,f2⟩:=ih (id + 1) _ h1 nx1 p m' h' nx' (fun j hj hj'=>e2 j (hn j (by omega) (by omega)) (by omega) (.inl (by omega))) (by omega) (fun j hj=>e2 j (hf j (by omega)) (by omega) (.inr hj)) hr
   exact ⟨by omega,fun i hi h1 h2=>f2 i (e2 i hi (by omega) (by omega)) (by omega) (by omega)⟩
def RegPostP (B:Nat) (w0:World) (nt:Nat) (a0:Act) (g0:Gh) (h0:Heap) (wi:World) (N:Nat→Prop) (p:Option FV) (m':Tm) (h':Heap):Exit→Act→World→Prop:=fun e a' w' =>
 ∃ g',RT g' w' m' a'∧a'.tmps.size=nt∧a'.defers=a0.defers∧Nx B w0 g0 g' h' wi w'∧KNew g0 g' h0 h' N ∧
  match p with
  |none=>e=.normal
  |some u=>∃ x,e=.panic [{ v:=x,recovered:=false }]∧R g' w' u x
theorem exec_panic {x':Operand} {dst:Option Tmp} {ty:TypeId} {pos:String} {aft:Array Edge} {gd:Option (Nat × Bool)} {t:Nat} {q:Value} (he:a.eval x'=.iface t q) :
  (execOp a.eval ⟨dst,.panic x',ty,pos,aft,gd⟩).run P w=.halt (.panic (.iface t q)) w:=by
 have:execOp a.eval ⟨dst,.panic x',ty,pos,aft,gd⟩=(do pure (.value (← Instr.panic (a.eval x')))):=rfl
 rw [this,he]
 simp only [Sem.run_bind,show (Instr.panic (.iface t q)).run P w=.halt (.panic (.iface t q)) w from rfl]
 rfl
theorem ropsP_sound (hcal:CalOkP P cal) {r:Option Nat} {n:Nat} {a0:Act} {g0:Gh} {h0:Heap} {wi:World} {N:Nat→Prop}:∀ (gs:List G) (i:Nat) (id:Nat) (m:Tm) (h:Heap) (nx:Nat) (p:Option FV) (m':Tm) (h':Heap) (nx':Nat) (g:Gh) (w:World) (a:Act),
  okGPs P ops nt (ops.toList.drop i) gs=true→ropsP cal id gs m h nx=some (p,m',h',nx')→RT g w m a→a.tmps.size=nt→a.defers=a0.defers→Nx B w0 g0 g h wi w →
  (∀ j,id ≤ j→j < id + gs.length→hget h j=none)→id + gs.length ≤ nx→Fresh h nx→KNew g0 g h0 h N→(∀ j,id ≤ j→j < id + gs.length→N j)→(∀ j,nx ≤ j→j < nx'→N j) →
  wpOpsIn (fb r) n P ops (RegPostP B w0 nt a0 g0 h0 wi N p m' h') (List.range' i gs.length) a w:=by
 intro gs
 induction gs with
 |nil =>
  intro i id m h nx p m' h' nx' g w a _ hr hm hs hd hx _ _ _ hkn _ _
  simp only [ropsP,Option.some.injEq,Prod.mk.injEq] at hr
  obtain ⟨rfl,rfl,rfl,rfl⟩:=hr
  exact ⟨g,hm,hs,hd,hx,hkn,rfl⟩
 |cons gg gs ih =>
  intro i id m h nx p m' h' nx' g w a hok hr hm hs hd hx hn hle hf hkn hN1 hN2
  have hi:i < ops.size:=by
   rcases Nat.lt_or_ge i ops.size with h1 | h1
   ·exact h1
   ·rw [List.drop_eq_nil_of_le (by simpa using h1)] at hok;simp [okGPs] at hok
  have hop:ops[i]? = some ops[i]:=by simp [hi]
  have hdrop:ops.toList.drop i=ops[i]::ops.toList.drop (i + 1):=by
   rw [List.drop_eq_getElem_cons (by simpa using hi)];simp
  rw [hdrop] at hok
  simp only [okGPs,Bool.and_eq_true] at hok
  obtain ⟨hok1,hok2⟩:=hok
  obtain ⟨k1,k2,k3,k4⟩:=okGP_dst hok1
  simp only [List.length_cons] at hn hle hN1 ⊢
  rw [show List.range' i (gs.length + 1)=i::List.range' (i + 1) gs.length from rfl,wpOpsIn_cons]
  unfold wpOpIn
  rw [hop]
  rcases ropsP_cons hr with ⟨hb,hr2⟩ | ⟨hb,hr2⟩
  ·have hw:=wanted_sound (ops:=ops) hm hs k3 hb
   simp only [hw]
   generalize ops[i]=o at *
   simp only [Bool.false_eq_true,if_false]
   rw [k1]
   exact ⟨fun _ _=>trivial,ih (i + 1) (id + 1) _ h nx p m' h' nx' g w _ hok2 hr2 (hm.put hs k2 (.tup [] [] .nil)) (by rw [put_size];exact hs) (by rw [put_defers];exact hd) hx
    (fun j hj hj'=>hn j (by omega) (by omega)) (by omega) hf hkn (fun j hj hj'=>hN1 j (by omega) (by omega)) hN2⟩
  ·have hw:=wanted_sound (ops:=ops) hm hs k3 hb
   simp only [hw]
   generalize ops[i]=o at *
   simp only [if_true]
   obtain ⟨od,oop,oty,opos,oaft,ogd⟩:=o
   simp only at k1 k3 k4
   rcases hr2 with ⟨x,t,q,hgo,e,hr2⟩ | ⟨f,as,u,h1,nx1,hgo,q1,hr2⟩ | ⟨v1,h1,nx1,q1,hr2⟩
   ·simp only [Prod.mk.injEq] at hr2
    obtain ⟨rfl,rfl,rfl,rfl⟩:=hr2
    rw [hgo] at k4
    cases oop<;>simp only [okP,Bool.false_eq_true] at k4
    rename_i x'
    have rx:=R_okX hm k4
    rw [e] at rx
    have:∃ y,a.eval x'=.iface t y:=by generalize a.eval x'=z at rx;cases rx;exact ⟨_,rfl⟩
    obtain ⟨y,hy⟩:=this
    refine ⟨fun _ _=>trivial,?_⟩
    rw [Oper.semAt_eq _ _ _ (by intro c;simp),exec_panic hy]
    refine ⟨g,hm,hs,hd,hx,hkn,.iface t y,rfl,?_⟩
    rw [hy] at rx
    exact rx
   ·simp only [Prod.mk.injEq] at hr2
    obtain ⟨rfl,rfl,rfl,rfl⟩:=hr2
    rw [hgo] at k4
    simp only [okP,okO] at k4
    split at k4
    ·rename_i f2 args2 ts2
     simp only [Bool.and_eq_true,beq_iff_eq,decide_eq_true_eq] at k4
     obtain ⟨⟨rfl,hlt⟩,h2⟩:=k4
     obtain ⟨he,h3⟩:=hcal.fn _ _ _ _ _ _ _ q1 hlt
     obtain ⟨xs,e1,e2⟩:=exec_cl (ts:=ts2) (dst:=od) (ty:=oty) (pos:=opos) (aft:=oaft) (gd:=ogd) (caps:=[]) (cs:=[]) hm he (fo:=.func _) rfl .nil h2
     refine ⟨fun _ _=>trivial,?_⟩
     rw [Oper.semAt_eq _ _ _ (by intro c;simp),e1,Oper.uponIn_enter]
     refine ⟨fun hh=>by simp [fb,Fence.wide] at hh,callsIn_fb ((h3 B w0 g w xs hx.inv hm.gl (by simpa using e2) hf).mono ?_)⟩
     rintro e w' ⟨g',hr,hn',hk⟩
     rcases hr with ⟨x,rfl,hr⟩ | ⟨u',x,hu,rfl,hr⟩
     ·cases hr
     ·cases hu
      refine ⟨g',hm.mono hn'.le,hs,hd,hx.trans hn',fun i hi hki=>?_,x,rfl,hr⟩
      have q1:=hkn i hi hki
      have q2:=hk i (fun e=>hi (hN2 i e.1 e.2)) q1.1
      exact ⟨q2.1,q2.2.trans q1.2⟩
    ·simp at k4
   ·have k4':okO P oop gg.op=true:=by
     cases hg:gg.op<;>rw [hg] at k4<;>first | exact k4 | skip
     rw [hg] at q1
     simp [opg,opv,bnd] at q1
    obtain ⟨e1,e2⟩:=opg_new hcal.np (hn id (Nat.le_refl _) (by omega)) hf q1
    have e5:=(ropsP_new hcal gs (id + 1) _ h1 nx1 p m' h' nx' (fun j hj hj'=>e2 j (hn j (by omega) (by omega)) (by omega) (.inl (by omega))) (by omega) (fun j hj=>e2 j (hf j (by omega)) (by omega) (.inr hj)) hr2).1
    refine opg_sound hcal.np hx.inv hm (hn id (Nat.le_refl _) (by omega)) hf (gg:=⟨gg.dst,gg.guard,gg.op,[]⟩) k4' q1 ?_
    intro g1 w1 x hx1 hx2 hx3
    subst k1
    exact ih (i + 1) (id + 1) _ h1 nx1 p m' h' nx' g1 w1 _ hok2 hr2 ((hm.mono hx2.le).put hs k2 hx1) (by rw [put_size];exact hs) (by rw [put_defers];exact hd) (hx.trans hx2)
     (fun j hj hj'=>e2 j (hn j (by omega) (by omega)) (by omega) (.inl (by omega))) (by omega) (fun j hj=>e2 j (hf j (by omega)) (by omega) (.inr hj))
     (fun i hi hk=>by
      have q1:=hkn i hi hk
      have q2:=hx3 i (fun e=>hi (by rcases e with e | e;exact hN1 i (by omega) (by omega);exact hN2 i (by omega) (by omega))) q1.1
      exact ⟨q2.1,q2.2.trans q1.2⟩) (fun j hj hj'=>hN1 j (by omega) (by omega)) (fun j hj hj'=>hN2 j (by omega) hj')
end
end Go.FI
