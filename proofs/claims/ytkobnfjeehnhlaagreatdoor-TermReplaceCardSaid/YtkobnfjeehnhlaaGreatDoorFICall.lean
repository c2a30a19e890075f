/- Calls. -/
import Derived.Test.YtkobnfjeehnhlaaGreatDoorFIFrz
import Derived.RecoverIn
set_option linter.all false
namespace Go.FI
open Go.RowKit
variable [Sys]
def okRes (P:Program) (nt:Nat):List ResultVar→List RV→Bool
 |[],[]=>true
 |.tmp t::a,.t n::b=>t == n && okRes P nt a b
 |.cell t ty::a,.cell n ag::b=>t == n && okAg P ty ag && okRes P nt a b
 |_,_=>false
def okFn (P:Program) (cm:Nat→Nat) (rdO:Nat→Option Rd) (f:Nat) (d:Fn):Bool :=
 match P.funcs[f]? with
 |some fn=>match fn.body with
  |some c => okC P cm rdO fn.ntmps c d.body && decide (d.np ≤ fn.ntmps) && okRes P fn.ntmps fn.results.toList d.res && !(fn.name == "runtime.NumGoroutine")
  |none=>false
 |none=>false
def cmOf (T:Tab) (f:Nat):Nat :=
 match tget T f with
 |some (.fn d)=>match d.mode with
  |.iso=>0
  |.isf=>1
  |.shr=>2
  |.isc=>2
 |some (.ext _)=>1
 |some (.ct _)=>0
 |some (.mr _)=>0
 |some (.rd _)=>2
 |none=>2
def rdOf (T:Tab) (f:Nat):Option Rd :=
 match tget T f with
 |some (.rd d)=>some d
 |_=>none
def zone (Z:Nat→Prop) (w w':World):Nat→Prop:=fun b=>Z b ∨ w.heap.size ≤ b∧b < w'.heap.size
def IsoCall (P:Program) (f:Nat) (args:List FV) (v:FV):Prop:=∀ (Z:Nat→Prop) (w:World) (xs:List Value),(∀ b,Z b→b < w.heap.size)→GlOk ⟨fun _=>none,Z⟩ w→RL ⟨fun _=>none,Z⟩ w args xs →
 Calls P f xs.toArray w fun e w'=>∃ x,e=.returned x∧Below w.heap.size w w'∧R ⟨fun _=>none,zone Z w w'⟩ w' v x
theorem frz_pan {h:Heap} {n:Nat} {v:FV}:frz h (n + 1) (.pan v)=bnd (frz h n v) fun r=>some (.pan r):=by
 simp [frz,pure_]
def IsoCallP (P:Program) (f:Nat) (args:List FV) (v:FV):Prop:=∀ (Z:Nat→Prop) (w:World) (xs:List Value),(∀ b,Z b→b < w.heap.size)→GlOk ⟨fun _=>none,Z⟩ w→RL ⟨fun _=>none,Z⟩ w args xs →
 Calls P f xs.toArray w fun e w'=>Below w.heap.size w w'∧EndR ⟨fun _=>none,zone Z w w'⟩ w' v e
theorem IsoCall.pan {P:Program} {f:Nat} {args:List FV} {v:FV} (h:IsoCall P f args v):IsoCallP P f args v:=fun Z w xs hz hg hx=>(h Z w xs hz hg hx).mono fun _ _ ⟨x,h1,h2,h3⟩=>⟨h2,.inl ⟨x,h1,h3⟩⟩
theorem IsoCallP.ret {P:Program} {f:Nat} {args:List FV} {v:FV} (h:IsoCallP P f args v) (hp:isPan v=false):IsoCall P f args v:=fun Z w xs hz hg hx=>(h Z w xs hz hg hx).mono fun e w' ⟨h1,h2⟩=>by
 rcases h2 with ⟨x,e1,e2⟩ | ⟨u,x,rfl,_⟩
 ·exact ⟨x,e1,h1,e2⟩
 ·simp [isPan] at hp
def ExtOk (P:Program) (f:Nat) (g:List FV→Option FV):Prop:=entered P f=true∧∀ args v,g args=some v→IsoCall P f args v
def okCt (P:Program) (cm:Nat→Nat) (rdO:Nat→Option Rd) (f:Nat) (c:Ct):Bool :=
 match P.funcs[f]? with
 |some fn=>match fn.body with
  |some (.seq (.region _ pre false) (.seq (.region _ ops false) rest)) => okGs P pre fn.ntmps pre.toList c.pre && okC P cm rdO fn.ntmps rest c.rest && decide (c.np ≤ fn.ntmps) && okRes P fn.ntmps fn.results.toList c.res && !(fn.name == "runtime.NumGoroutine") && decide (c.dst < fn.ntmps) && decide (c.g < RB) &&
    (match ops.toList with
     |[⟨some d,.makeFunc (.func g) first caps,_,_,_,none⟩,⟨none,.defer ⟨.value (.tmp d'),as,_⟩,_,_,_,none⟩]=>d == c.dst && d' == c.dst && g == c.g && first.isEmpty && as.isEmpty && okXs caps.toList (c.ct.map .t)
     |_=>false) &&
    (match P.funcs[c.g]? with
     |some gn=>(match gn.body with
      |some (.seq (.region _ ops2 false) hb) => okC P cm rdO gn.ntmps hb c.hb && decide (c.ct.length ≤ gn.ntmps) && gn.results.isEmpty && !(gn.name == "runtime.NumGoroutine") && decide (c.ht < gn.ntmps) &&
       (match ops2.toList with
        |[⟨some t,.call ⟨.builtin .recover,as,_⟩,_,_,_,none⟩]=>t == c.ht && as.isEmpty
        |_=>false)
      |_=>false)
     |none=>false)
  |_=>false
 |none=>false
def okWalk (P:Program) (cm:Nat→Nat) (rdO:Nat→Option Rd) (nt:Nat) (d:Mr):Code→Bool
 |.seq (.seq (.region _ rops false) (.block b0 (.loop (.seq (.region _ nops false) (.seq (.cond (.tmp t23) .skip (.exit b0')) (.block _ (.seq (.region _ eops false) body))))))) post =>
   b0 == b0' && okC P cm rdO nt body d.body && okC P cm rdO nt post d.post &&
   (match rops.toList with
    |[⟨some t20,.move x,_,_,_,none⟩,⟨some t21,.range mt (.tmp t20'),_,_,_,none⟩]=>okX x (.t d.mp) && t20 == t20' && t21 == d.it && !d.keep0.contains t20 && decide (t20 < nt) && decide (t21 < nt) && isDesc P mt (fun q=>match q with | .map _ _=>true | _=>false)
    |_=>false) &&
   (match nops.toList with
    |[⟨some t22,.next (.tmp t21') false,_,_,_,none⟩,⟨some t23',.extract (.tmp t22') 0,_,_,_,none⟩]=>t21' == d.it && t22 == t22' && t23 == t23' && !d.keep0.contains t22 && !d.keep0.contains t23 && decide (t22 < nt) && decide (t23 < nt)
    |_=>false) &&
   (match eops.toList with
    |⟨some t24,.entry (.tmp t21''),_,_,_,none⟩::rest=>t24 == d.d && decide (t24 < nt) && t21'' == d.it && okGs P eops nt rest d.ops
    |_=>false)
 |_=>false
def okMrC (P:Program) (cm:Nat→Nat) (rdO:Nat→Option Rd) (nt:Nat) (d:Mr):List C→Code→Bool
 |p::ps,.seq a b=>okC P cm rdO nt a p && okMrC P cm rdO nt d ps b
 |[],c=>okWalk P cm rdO nt d c
 |_::_,_=>false
def okMr (P:Program) (cm:Nat→Nat) (rdO:Nat→Option Rd) (f:Nat) (d:Mr):Bool :=
 match P.funcs[f]? with
 |some fn=>match fn.body with
  |some c => okMrC P cm rdO fn.ntmps d d.pre c && decide (d.np ≤ fn.ntmps) && okRes P fn.ntmps fn.results.toList d.res && !(fn.name == "runtime.NumGoroutine")
  |none=>false
 |none=>false
structure TabOk (P:Program) (T:Tab):Prop where
 ct:∀ f c,tget T f=some (.ct c)→okCt P (cmOf T) (rdOf T) f c=true
 fn:∀ f d,tget T f=some (.fn d)→okFn P (cmOf T) (rdOf T) f d=true
 mr:∀ f d,tget T f=some (.mr d)→okMr P (cmOf T) (rdOf T) f d=true
 ext:∀ f g,tget T f=some (.ext g)→ExtOk P f g
 mix:P.follows .mixedOrders=true
 rk:∀ f r ct,Sys.rk f r ct ↔ RkOf P (cmOf T) (rdOf T) f r ct
theorem tget_any {i f:Nat} {x y:Def} {r:Tab} (h:tget ((i,x)::r) f=some y):(i=f∧x=y) ∨ tget r f=some y:=by
 simp only [tget] at h
 split at h
 ·rename_i e;cases h;exact .inl ⟨e,rfl⟩
 ·exact .inr h
section
variable {P:Program} {B:Nat} {w0:World} {g g':Gh} {w w':World} {h h':Heap} {m:Tm} {a:Act} {nt:Nat} {cm:Nat→Nat}
theorem gt_params:∀ (args:List FV) (i t:Nat),gt (params i args) t=if i ≤ t then args.getD (t - i) .undef else .undef:=by
 intro args
 induction args with
 |nil=>intro i t;simp [params,gt]
 |cons v args ih =>
  intro i t
  simp only [params,gt]
  by_cases e:i=t
  ·subst e;simp
  ·rw [if_neg e,ih]
   by_cases h1:i ≤ t
   ·have h2:i + 1 ≤ t:=by omega
    rw [if_pos h1,if_pos h2]
    obtain ⟨k,hk⟩:∃ k,t - i=k + 1:=⟨t - i - 1,by omega⟩
    rw [hk,show t - (i + 1)=k by omega]
    simp
   ·rw [if_neg h1,if_neg (by omega)]
theorem RT_params {args:List FV} {xs:List Value} (hr:RL g w args xs) (hgl:GlOk g w) (n:Nat):RT g w (params 0 args) ⟨xs.toArray ++ Array.replicate n undef,[]⟩:=by
 refine ⟨?_,hgl⟩
 intro t
 rw [gt_params]
 simp only [Nat.zero_le,if_true,Nat.sub_zero]
 by_cases ht:t < args.length
 ·obtain ⟨x,hx,hR⟩:=hr.get t args[t] (by simp [ht])
  have hlt:t < xs.length:=by rw [← hr.length];exact ht
  have:xs[t]=x:=by simpa [hlt] using hx
  subst this
  simpa [Array.getD,hlt,ht,Array.getElem_append,show t < xs.length + n by omega] using hR
 ·have:args.getD t .undef=.undef:=by simp [List.getElem?_eq_none (Nat.le_of_not_lt ht)]
  rw [this];exact .undef _
theorem readRes_sound (hI:Inv B w0 g h w) (hm:RT g w m a):∀ (rs:List ResultVar) (vs:List RV) (out:List FV),okRes P nt rs vs=true→readRes m h vs=some out →
  ∃ xs,(rs.mapM fun (r:ResultVar)=>(match r with | .tmp t=>pure (a.tmps.getD t undef) | .cell q t=>do loadVar t (← asAddr (a.tmps.getD q undef)):Sem Value)).run P w=.ok xs w∧RL g w out xs:=by
 intro rs
 induction rs with
 |nil =>
  intro vs out hok hr
  cases vs with
  |nil=>simp only [readRes,Option.some.injEq] at hr;subst hr;exact ⟨[],rfl,.nil⟩
  |cons=>simp [okRes] at hok
 |cons r rs ih =>
  intro vs out hok hr
  cases vs with
  |nil=>cases r<;>simp [okRes] at hok
  |cons q vs =>
   cases r with
   |tmp t =>
    cases q with
    |cell=>simp [okRes] at hok
    |t n =>
     simp only [okRes,Bool.and_eq_true,beq_iff_eq] at hok
     obtain ⟨rfl,hok⟩:=hok
     simp only [readRes] at hr
     obtain ⟨o2,k1,k2⟩:=bnd_some hr
     simp only [Option.some.injEq] at k2;subst k2
     obtain ⟨xs,h1,h2⟩:=ih vs o2 hok k1
     refine ⟨a.tmps.getD t undef::xs,?_,.cons _ _ _ _ (hm t) h2⟩
     rw [List.mapM_cons]
     simp only [Sem.run_bind,Sem.run_pure,Result.andThen_ok,h1]
   |cell t ty =>
    cases q with
    |t=>simp [okRes] at hok
    |cell n ag =>
     simp only [okRes,Bool.and_eq_true,beq_iff_eq] at hok
     obtain ⟨⟨rfl,hag⟩,hok⟩:=hok
     simp only [readRes] at hr
     obtain ⟨v,k0,hr⟩:=bnd_some hr
     obtain ⟨o2,k1,k2⟩:=bnd_some hr
     simp only [Option.some.injEq] at k2;subst k2
     obtain ⟨xs,h1,h2⟩:=ih vs o2 hok k1
     obtain ⟨ad,z,e1,e2,e3⟩:=loadv_sound hI (hm t) hag k0
     refine ⟨z::xs,?_,.cons _ _ _ _ e3 h2⟩
     rw [List.mapM_cons]
     have e4:(asAddr (.pointer (some ad))).run P w=.ok ad w:=rfl
     simp only [e1,Sem.run_bind,Sem.run_pure,Result.andThen_ok,h1,e4,e2]
theorem results_sound (hI:Inv B w0 g h w) (hm:RT g w m a) {fn:Func} {vs:List RV} {out:List FV} (hok:okRes P nt fn.results.toList vs=true) (hr:readRes m h vs=some out) :
  ∃ x,(results fn a.tmps).run P w=.ok x w∧R g w (result out) x:=by
 obtain ⟨xs,h1,h2⟩:=readRes_sound hI hm _ _ _ hok hr
 have h3:(fn.results.mapM fun (r:ResultVar)=>(match r with | .tmp t=>pure (a.tmps.getD t undef) | .cell q t=>do loadVar t (← asAddr (a.tmps.getD q undef)):Sem Value)).run P w=.ok xs.toArray w:=by
  rw [Array.mapM_eq_mapM_toList]
  simp only [Sem.run_map,h1]
  rfl
 have h4:results fn a.tmps=(do
   let vs ← fn.results.mapM fun (r:ResultVar)=>(match r with | .tmp t=>pure (a.tmps.getD t undef) | .cell q t=>do loadVar t (← asAddr (a.tmps.getD q undef)):Sem Value)
   pure (if h:vs.size=1 then vs[0] else .tuple vs)):=rfl
 rw [h4]
 simp only [Sem.run_bind,h3,Result.andThen_ok,Sem.run_pure]
 refine ⟨_,rfl,?_⟩
 cases h2 with
 |nil=>exact .tup _ _ .nil
 |cons v x vs xs hr1 hs =>
  cases hs with
  |nil=>exact hr1
  |cons v2 x2 vs2 xs2 hr2 hs2 =>
   have:¬ (x::x2::xs2).toArray.size=1:=by simp
   rw [dif_neg this]
   exact .tup _ _ (.cons _ _ _ _ hr1 (.cons _ _ _ _ hr2 hs2))
mutual
theorem R.unmark {r:Nat} {o:Go.Obj} (hr:w.heap[r]? = some (.deferred (some []))):∀ {v:FV} {x:Value},R g w v x→R ⟨g.κ,fun b=>g.Z b∧b ≠ r⟩ (w.putObj r o) v x
 |_,_,.undef v=>.undef v
 |_,_,.bool b=>.bool b
 |_,_,.int k n=>.int k n
 |_,_,.str s=>.str s
 |_,_,.agg cs vs h=>.agg cs vs (RL.unmark hr h)
 |_,_,.tup cs vs h=>.tup cs vs (RL.unmark hr h)
 |_,_,.lst0 e a cap he=>.lst0 e a cap he
 |_,_,.lst e xs b o es cap cs hne he hle hZ hes hx h hc=>by
  have hb:b ≠ r:=by
   intro e
   have hlen:=h.length
   rw [flat_length (fun x hx'=>(hx x hx').1)] at hlen
   have hpos:0 < cs.length:=by
    rw [← hlen]
    exact Nat.mul_pos (List.length_pos_iff.2 hne) hes
   have:=hc 0 cs[0] (by simp [hpos])
   rw [e] at this
   simp [World.cell?,hr] at this
  exact .lst e xs b o es cap cs hne he hle ⟨hZ,hb⟩ hes hx (RL.unmark hr h) fun j v hj=>by
   rw [cell_of_heap (w:=w) (a:=⟨b,o + j,none⟩) (World.putObj_heap_other hb)];exact hc j v hj
 |_,_,.eptr cs off b o vs hne hZ h hc=>by
  have hb:b ≠ r:=by
   intro e
   have hlen:=h.length
   have hpos:0 < vs.length:=by
    rw [← hlen]
    exact List.length_pos_iff.2 hne
   have:=hc 0 vs[0] (by simp [hpos])
   rw [e] at this
   simp [World.cell?,hr] at this
  exact .eptr cs off b o vs hne ⟨hZ,hb⟩ (RL.unmark hr h) fun j v hj=>by
   rw [cell_of_heap (w:=w) (a:=⟨b,o + j,none⟩) (World.putObj_heap_other hb)];exact hc j v hj
 |_,_,.ptr id s i off l a hk hs hp=>.ptr id s i off l a hk hs hp
 |_,_,.nilp=>.nilp
 |_,_,.sref es id s off len l a cap hk he hs hle ha hp=>.sref es id s off len l a cap hk he hs hle ha hp
 |_,_,.map id b l hk hm hb=>.map id b l hk hm hb
 |_,_,.nilm=>.nilm
 |_,_,.fn f cs vs hlt h=>.fn f cs vs hlt (RL.unmark hr h)
 |_,_,.nilf=>.nilf
 |_,_,.ifc t v x h=>.ifc t v x (R.unmark hr h)
 |_,_,.nili=>.nili
 |_,_,.yl f id cs l b q ct hge hk hm hb hq hf hc=>.yl f id cs l b q ct hge hk hm hb hq hf (RL.unmark hr hc)
theorem RL.unmark {r:Nat} {o:Go.Obj} (hr:w.heap[r]? = some (.deferred (some []))):∀ {vs:List FV} {xs:List Value},RL g w vs xs→RL ⟨g.κ,fun b=>g.Z b∧b ≠ r⟩ (w.putObj r o) vs xs
 |_,_,.nil=>.nil
 |_,_,.cons v x vs xs h hs=>.cons v x vs xs (R.unmark hr h) (RL.unmark hr hs)
end
theorem EnOk.unmark {r:Nat} {o:Go.Obj} (hr:w.heap[r]? = some (.deferred (some []))) {en:List (FV × FV)} {es:List MapEntry} (he:EnOk g w en es):EnOk ⟨g.κ,fun b=>g.Z b∧b ≠ r⟩ (w.putObj r o) en es:=by
 induction he with
 |nil=>exact .nil
 |cons k v e en es hk hv hs ih=>exact .cons k v e en es (hk.unmark hr) (hv.unmark hr) ih
theorem RT.unmark {r:Nat} {o:Go.Obj} (hr:w.heap[r]? = some (.deferred (some []))) (hm:RT g w m a):RT ⟨g.κ,fun b=>g.Z b∧b ≠ r⟩ (w.putObj r o) m a :=
 ⟨fun t=>(hm t).unmark hr,fun k cs hk=>(hm.gl k cs hk).unmark hr⟩
theorem Inv.unmark {r:Nat} {o:Go.Obj} (hI:Inv B w0 g h w) (hr:w.heap[r]? = some (.deferred (some []))) (hz:g.Z r) (hB:B ≤ r):Inv B w0 ⟨g.κ,fun b=>g.Z b∧b ≠ r⟩ h (w.putObj r o):=by
 have hoth:∀ i l b,g.κ i=some l→l.blk=some b→(w.putObj r o).heap[b]? = w.heap[b]? := fun i l b hl hb=>World.putObj_heap_other fun e=>by
  subst e
  obtain ⟨o,ho⟩:=hI.dom i l hl
  have hob:=hI.obj i o l ho hl
  cases o with
  |fro es xs =>
   obtain ⟨arr,t,q1,_⟩:=hob.1.hsome _ hb
   rw [hr] at q1;cases q1
  |fmp en =>
   obtain ⟨bb,es,clock,q1,q2,_⟩:=hob.1.hsome
   rw [hb] at q1;cases q1
   rw [hr] at q2;cases q2
  |mit =>
   obtain ⟨bb,m,s,sn,k,q1,_,q2⟩:=(hob:MitOk g w l).hsome
   rw [hb] at q1;cases q1
   rw [hr] at q2;cases q2
  |_=>exact (hI.own i l _ hl hb).2.1 (by rw [ho];rfl) hz
 refine ⟨hI.dom,fun i q l hq hl=>?_,hI.inj,fun i l b hl hb=>?_,fun b hb=>?_,?_,?_⟩
 ·have:=hI.obj i q l hq hl
  cases q with
  |row es xs =>
   obtain ⟨k1,k2,k3,k4,k5,k6,k7⟩:=(this:RowOk g w l es xs)
   refine ⟨k1,k2,k3,k4,k5,k6,fun bb hb=>?_⟩
   obtain ⟨arr,t,q1,q2,q3,cs,q4,q5⟩:=k7 bb hb
   exact ⟨arr,t,by rw [hoth i l bb hl hb];exact q1,q2,q3,cs,q4.unmark hr,q5⟩
  |fro es xs =>
   obtain ⟨⟨k1,k2,k3,k4,k5,k6,k7⟩,k8⟩:=(this:RowOk g w l es xs∧∀ b,l.blk=some b→g.Z b)
   refine ⟨⟨k1,k2,k3,k4,k5,k6,fun bb hb=>?_⟩,fun bb hb=>⟨k8 bb hb,fun e=>?_⟩⟩
   ·obtain ⟨arr,t,q1,q2,q3,cs,q4,q5⟩:=k7 bb hb
    exact ⟨arr,t,by rw [hoth i l bb hl hb];exact q1,q2,q3,cs,q4.unmark hr,q5⟩
   ·subst e
    obtain ⟨arr,t,q1,_⟩:=k7 bb hb
    rw [hr] at q1;cases q1
  |mp en =>
   obtain ⟨k1,k1',bb,es,clock,q1,q2,q3,q4⟩:=(this:MapOk g w l en)
   exact ⟨k1,k1',bb,es,clock,q1,by rw [hoth i l bb hl q1];exact q2,q3.unmark hr,q4⟩
  |lp st jp =>
   obtain ⟨k1,bb,rr,q1,q2,q3⟩:=(this:LpOk w l st jp)
   exact ⟨k1,bb,rr,q1,q2,by rw [hoth i l bb hl q1];exact q3⟩
  |fmp en =>
   obtain ⟨⟨k1,k1',bb,es,clock,q1,q2,q3,q4⟩,k2⟩:=(this:MapOk g w l en∧∀ b,l.blk=some b→g.Z b)
   refine ⟨⟨k1,k1',bb,es,clock,q1,by rw [hoth i l bb hl q1];exact q2,q3.unmark hr,q4⟩,fun b2 hb2=>⟨k2 b2 hb2,fun e=>?_⟩⟩
   subst e
   rw [q1] at hb2;cases hb2
   rw [hr] at q2;cases q2
  |mit =>
   obtain ⟨k1,k2,k3,bb,m,s,sn,k,q1,qz,q2⟩:=(this:MitOk g w l)
   have hne:bb ≠ r:=fun e=>by subst e;rw [hr] at q2;cases q2
   exact ⟨k1,k2,k3,bb,m,s,sn,k,q1,⟨qz,hne⟩,by rw [World.putObj_heap_other hne];exact q2⟩
  |sit s pos =>
   obtain ⟨k1,k2,k3,bb,q1,q2⟩:=(this:SitOk w l s pos)
   exact ⟨k1,k2,k3,bb,q1,by rw [hoth i l bb hl q1];exact q2⟩
 ·obtain ⟨h1,h2,h3⟩:=hI.own i l b hl hb
  exact ⟨h1,fun hf e=>h2 hf e.1,by simpa using h3⟩
 ·have:=hI.zlt b hb.1;simpa using this
 ·exact hI.below.trans ⟨rfl,rfl,rfl,by simp,fun k hk=>World.putObj_heap_other (by omega)⟩
 ·have:=hI.size;simpa using this
theorem leave_marks {lo:Nat} {ds:List Deferred} {u:FrameMode} (hu:u ≠ .run) (hB:B ≤ lo):∀ (ms:List Deferred) (g:Gh) (w:World) (fr:Frame) (cs:List Frame),Marks g w lo ms→fr.mode=u→fr.defers=ms ++ ds→Inv B w0 g h w →
  ∃ g' w',Steps P (lone fr cs w) (lone { fr with defers:=ds } cs w')∧Inv B w0 g' h w'∧(∀ v x,R g w v x→R g' w' v x)∧g'.κ=g.κ∧(∀ b,g'.Z b→g.Z b)∧(∀ b,b < lo→g.Z b→g'.Z b)∧(∀ b,b < lo→w'.heap[b]? = w.heap[b]?)∧w'.heap.size=w.heap.size:=by
 intro ms
 induction ms with
 |nil =>
  intro g w fr cs _ hm hd hI
  refine ⟨g,w,?_,hI,fun _ _ h=>h,rfl,fun _ h=>h,fun _ _ h=>h,fun _ _=>rfl,rfl⟩
  have:({ fr with defers:=ds }:Frame)=fr:=by
   have e:ds=fr.defers:=by simpa using hd.symm
   rw [e]
  rw [this]
  exact .refl _ _
 |cons d ms ih =>
  rintro g w fr cs ⟨⟨r,rfl,hz,hlo,hb,hne⟩,hms⟩ hm hd hI
  have h1:=step_collected (P:=P) (cs:=cs) (fr:=fr) (by rw [hm];exact hu) hd rfl (run_takeDeferred hb)
  have hms':Marks ⟨g.κ,fun b=>g.Z b∧b ≠ r⟩ (w.putObj r (.deferred none)) lo ms:=by
   have:∀ (ds:List Deferred),(∀ d' ∈ ds,d' ≠ { target:=.collected r,args:=#[] })→Marks g w lo ds→Marks ⟨g.κ,fun b=>g.Z b∧b ≠ r⟩ (w.putObj r (.deferred none)) lo ds:=by
    intro ds
    induction ds with
    |nil=>intro _ _;trivial
    |cons e ds ih2 =>
     rintro hne ⟨⟨q,rfl,z1,z2,z3,z4⟩,z5⟩
     have hq:q ≠ r:=fun e=>hne _ (List.mem_cons_self ..) (by rw [e])
     exact ⟨⟨q,rfl,⟨z1,hq⟩,z2,by rw [World.putObj_heap_other hq];exact z3,z4⟩,ih2 (fun d' hd'=>hne d' (List.mem_cons_of_mem _ hd')) z5⟩
   exact this ms hne hms
  obtain ⟨g',w',k1,k2,k3,k4,k5,k6,k7,k8⟩:=ih _ _ { fr with defers:=[] ++ (ms ++ ds) } cs hms' hm rfl (hI.unmark hb hz (by omega))
  refine ⟨g',w',Steps.trans (.one h1) k1,k2,fun v x hx=>k3 v x (hx.unmark hb),k4,fun b h=>(k5 b h).1,fun b hb h=>k6 b hb ⟨h,by omega⟩,fun b hb=>(k7 b hb).trans (World.putObj_heap_other (by omega)),by rw [k8];simp⟩
theorem RT.map {g':Gh} {w':World} (hm:RT g w m a) (hr:∀ v x,R g w v x→R g' w' v x):RT g' w' m a:=⟨fun t=>hr _ _ (hm t),fun k cs hk=>hr _ _ (hm.gl k cs hk)⟩
theorem body_sound {rdO:Nat→Option Rd} (hrk:∀ f r ct,RkOf P cm rdO f r ct→Sys.rk f r ct) {cal:Call} (hcal:CalOkP P cal) (hst:Stable (np cal) cm) (hmix:P.follows .mixedOrders=true) {n f:Nat} {d:Fn} (hok:okFn P cm rdO f d=true) {args:List FV} {nx:Nat} {x:Ex × Tm × Heap × Nat} {v:FV} (hnp:args.length=d.np)
  (hr:run cal n [.code d.body] (params 0 args) h nx=some x) (hfin:finish d x=some v) (hf:Fresh h nx) :
  entered P f=true∧New h x.2.2.1 nx x.2.2.2∧∀ B w0 g w xs,Inv B w0 g h w→GlOk g w→RL g w args xs →
   Calls P f xs.toArray w fun e w'=>∃ g',EndR g' w' v e∧Nx B w0 g g' x.2.2.1 w w'∧KNew g g' h x.2.2.1 (fun i=>nx ≤ i∧i < x.2.2.2):=by
 unfold okFn at hok
 split at hok
 ·rename_i fn hfn
  split at hok
  ·rename_i c hc
   simp only [Bool.and_eq_true,decide_eq_true_eq,Bool.not_eq_true'] at hok
   obtain ⟨⟨⟨k1,k2⟩,k3⟩,k4⟩:=hok
   obtain ⟨ex,m',h',nx'⟩:=x
   obtain ⟨⟨q1,q3,q4⟩,_⟩:=run_sound (nt:=fn.ntmps) (B:=0) (w0:=default) hrk hcal hst hmix n _ _ _ _ _ _ _ _ hr _ nx (.code c d.body [] [] k1 .nil) (fun b c hm=>by simp at hm) (Nat.le_refl _) hf
   refine ⟨by simp [entered,hfn,hc,k4],⟨q1,fun i hi hc=>by rcases hc with hc | hc;exact q4 i hc hi;exact q3 i hc⟩,fun B w0 g w xs hI hgl hx=>?_⟩
   obtain ⟨_,q2⟩:=run_sound (nt:=fn.ntmps) (B:=B) (w0:=w0) hrk hcal hst hmix n _ _ _ _ _ _ _ _ hr _ nx (.code c d.body [] [] k1 .nil) (fun b c hm=>by simp at hm) (Nat.le_refl _) hf
   intro cs
   let b:Frame:={ (default:Frame) with fn:=f,kind:=.normal,roundOf:=none }
   have hlen:=hx.length
   have henter:Frame.enter P f xs.toArray .normal=b.atR ⟨xs.toArray ++ Array.replicate (fn.ntmps - xs.length) undef,[]⟩ [.code c]:=by
    simp [Frame.enter,Frame.atR,hfn,hc,b]
   obtain ⟨g',a',w',K',ms,fr0,r1,r2,r3,r4,r5,r5',r6,r7⟩:=q2 g w ⟨xs.toArray ++ Array.replicate (fn.ntmps - xs.length) undef,[]⟩ b cs (fun q hq=>by cases hq) (fun id hm=>by simp at hm) (RT_params hx hgl _) (by simp;omega) hI
   rw [gcut_fresh hI hf] at r6
   have hdef:a'.defers=ms:=by rw [r5];simp
   have r7:KNew g g' h h' (fun i=>nx ≤ i∧i < nx'):=fun i hi hk=>by
    by_cases h1:nx ≤ i
    ·have h2:nx' ≤ i:=by
      rcases Nat.lt_or_ge i nx' with h3 | h3
      ·exact absurd ⟨h1,h3⟩ hi
      ·exact h3
     exact ⟨kNone r6.inv (q3 i h2),by rw [q3 i h2,hf i h1]⟩
    ·exact r7 i h1 hk
   have after:∀ (u:FrameMode) (fr:Frame),u ≠ .run→fr.mode=u→fr.defers=ms→∃ g2 w2,Steps P (lone fr cs w') (lone { fr with defers:=[] } cs w2)∧(∀ v x,R g' w' v x→R g2 w2 v x)∧Nx B w0 g g2 h' w w2∧KNew g g2 h h' (fun i=>nx ≤ i∧i < nx'):=by
    intro u fr hu hm hd
    obtain ⟨g2,w2,l1,l2,l3,l4,l5,l6,l7,l8⟩:=leave_marks (P:=P) (ds:=[]) hu hI.size ms g' w' fr cs r5' hm (by simpa using hd) r6.inv
    refine ⟨g2,w2,l1,l3,⟨l2,⟨fun b hb=>l6 b (hI.zlt b hb) (r6.le.z b hb),fun b hb=>(l7 b (hI.zlt b hb)).trans (r6.le.heap b hb),?_⟩,fun b hb=>r6.z b (l5 b hb),?_⟩,fun i hi hk=>by rw [l4];exact r7 i hi hk⟩
    ·rw [l4];exact r6.le.k
    ·rw [l8];exact r6.sz
   have key:(∃ out,readRes m' h' d.res=some out∧result out=v)→Steps P (lone (b.atR a' K') cs w') (lone { b.atR a' K' with mode:=.returning } cs w') →
     Steps P (lone (b.atR ⟨xs.toArray ++ Array.replicate (fn.ntmps - xs.length) undef,[]⟩ [.code c]) cs w) (lone (b.atR a' K') cs w') →
     ∃ e w'' fr,(∃ g',EndR g' w'' v e∧Nx B w0 g g' h' w w''∧KNew g g' h h' (fun i=>nx ≤ i∧i < nx'))∧Comes P (lone (Frame.enter P f xs.toArray .normal) cs w) (lone fr cs w'') e∧fr.fn=f∧fr.leaving P w'' e:=by
    rintro ⟨out,o1,rfl⟩ hs r1
    obtain ⟨g2,w2,l1,l2,l3,l4⟩:=after .returning { b.atR a' K' with mode:=.returning } (by simp) rfl hdef
    obtain ⟨y,o2,o3⟩:=results_sound l3.inv (r3.map l2) k3 o1
    refine ⟨.returned y,w2,{ { b.atR a' K' with mode:=.returning } with defers:=[] },⟨g2,.inl ⟨y,rfl,o3⟩,l3,l4⟩,?_,rfl,rfl,rfl,rfl,fn,hfn,o2⟩
    rw [henter]
    exact Steps.trans r1 (Steps.trans hs l1)
   cases ex with
   |xt id=>simp [finish] at hfin
   |fin =>
    simp only [finish] at hfin
    obtain ⟨out,o1,o2⟩:=bnd_some hfin
    simp only [Option.some.injEq] at o2
    obtain ⟨e,rfl⟩:=r2
    subst e
    exact key ⟨out,o1,o2⟩ (.one (stepR_end rfl)) r1
   |ret =>
    simp only [finish] at hfin
    obtain ⟨out,o1,o2⟩:=bnd_some hfin
    simp only [Option.some.injEq] at o2
    obtain ⟨⟨k,rfl⟩,rfl⟩:=r2
    exact key ⟨out,o1,o2⟩ (.one (stepR_ret rfl)) r1
   |pan u =>
    simp only [finish,Option.some.injEq] at hfin
    subst hfin
    obtain ⟨x,hx2,rfl⟩:=r2
    obtain ⟨g2,w2,l1,l2,l3,l4⟩:=after (.panicking [{ v:=x,recovered:=false }]) { b.atR a' K' with mode:=.panicking [{ v:=x,recovered:=false }] } (by simp) rfl hdef
    refine ⟨.panicked [{ v:=x,recovered:=false }],w2,{ { b.atR a' K' with mode:=.panicking [{ v:=x,recovered:=false }] } with defers:=[] },⟨g2,.inr ⟨u,x,rfl,rfl,l2 _ _ hx2⟩,l3,l4⟩,?_,rfl,rfl,rfl,fn,hfn⟩
    rw [henter]
    exact Steps.trans r1 l1
  ·simp at hok
 ·simp at hok
theorem Inv.scope (w:World) (Z:Nat→Prop) (hz:∀ b,Z b→b < w.heap.size):Inv w.heap.size w ⟨fun _=>none,Z⟩ [] w :=
 ⟨fun id l h=>by simp at h,fun id o l h=>by simp [hget] at h,fun i j li lj b h=>by simp at h,fun i l b h=>by simp at h,hz,Below.refl _ _,Nat.le_refl _⟩
theorem Nx.scope (hI:Inv B w0 g h w) (hb:Below w.heap.size w w'):Nx B w0 g ⟨g.κ,zone g.Z w w'⟩ h w w':=by
 have hle:GLe g ⟨g.κ,zone g.Z w w'⟩ w w':=⟨fun b h=>.inl h,fun b h=>hb.block b (hI.zlt b h),KLe.refl _⟩
 refine ⟨⟨hI.dom,fun i o l ho hl=>?_,hI.inj,fun i l b hl hbk=>?_,fun b hz=>?_,?_,Nat.le_trans hI.size hb.size⟩,hle,fun b hz=>?_,hb.size⟩
 ·exact (hI.obj i o l ho hl).mono hle fun b hbk=>hb.block b (hI.own i l b hl hbk).2.2
 ·obtain ⟨h1,h2,h3⟩:=hI.own i l b hl hbk
  refine ⟨h1,fun hf hz=>?_,Nat.lt_of_lt_of_le h3 hb.size⟩
  rcases hz with hz | hz
  ·exact h2 hf hz
  ·omega
 ·rcases hz with hz | hz
  ·exact Nat.lt_of_lt_of_le (hI.zlt b hz) hb.size
  ·exact hz.2
 ·exact hI.below.trans (hb.mono hI.size)
 ·rcases hz with hz | hz
  ·exact .inl hz
  ·exact .inr (Nat.le_trans hI.size hz.1)
theorem GlOk.scope (hgl:GlOk g w) {Z:Nat→Prop} (hz:∀ b,g.Z b→Z b):GlOk ⟨fun _=>none,Z⟩ w:=fun k cs hk=>(hgl k cs hk).pure hz (by simp only [pure_];exact Sys.glp k cs hk)
theorem isoCall_sound {f:Nat} {args:List FV} {v:FV} (hc:IsoCallP P f args v) (hp:pures args=true) (hI:Inv B w0 g h w) (hgl:GlOk g w) {xs:List Value} (hx:RL g w args xs) (nx:Nat) :
  Calls P f xs.toArray w fun e w'=>∃ g',EndR g' w' v e∧Nx B w0 g g' h w w'∧KNew g g' h h (fun i=>nx ≤ i∧i < nx):=by
 refine (hc g.Z w xs hI.zlt (hgl.scope fun _ h=>h) (RL.pure (g:=g) (g2:=⟨fun _=>none,g.Z⟩) (fun _ h=>h) hx hp)).mono ?_
 rintro e w' ⟨hb,hr⟩
 have up:∀ v x,R ⟨fun _=>none,zone g.Z w w'⟩ w' v x→R ⟨g.κ,zone g.Z w w'⟩ w' v x:=fun v x hr=>R.mono (g:=⟨fun _=>none,zone g.Z w w'⟩) (g':=⟨g.κ,zone g.Z w w'⟩) (w':=w') ⟨fun _ h=>h,fun _ _=>rfl,fun id l h=>by simp at h⟩ hr
 refine ⟨⟨g.κ,zone g.Z w w'⟩,?_,Nx.scope hI hb,fun _ _ h=>⟨h,rfl⟩⟩
 rcases hr with ⟨x,rfl,hr⟩ | ⟨u,x,rfl,rfl,hr⟩
 ·exact .inl ⟨x,rfl,up _ _ hr⟩
 ·exact .inr ⟨u,x,rfl,rfl,up _ _ hr⟩
theorem enter_iso {rdO:Nat→Option Rd} (hrk:∀ f r ct,RkOf P cm rdO f r ct→Sys.rk f r ct) {cal:Call} (hcal:CalOkP P cal) (hst:Stable (np cal) cm) (hmix:P.follows .mixedOrders=true) {n f:Nat} {d:Fn} (hok:okFn P cm rdO f d=true) (hmode:d.mode=.iso) {args:List FV} {nx nx':Nat} {v:FV}
  (he:enter cal n d args h nx=some (v,h',nx')):entered P f=true∧h'=h∧nx'=nx∧pures args=true∧IsoCallP P f args v:=by
 unfold enter at he
 obtain ⟨hnp,he⟩:=chk_some he
 rw [hmode] at he
 simp only at he
 obtain ⟨hp,he⟩:=chk_some he
 obtain ⟨x,k1,he⟩:=bnd_some he
 obtain ⟨u,k2,he⟩:=bnd_some he
 obtain ⟨r,k3,he⟩:=bnd_some he
 simp only [Option.some.injEq,Prod.mk.injEq] at he
 obtain ⟨rfl,rfl,rfl⟩:=he
 obtain ⟨q1,q2,q3⟩:=body_sound hrk hcal hst hmix hok hnp k1 k2 (fun i _=>rfl)
 refine ⟨q1,rfl,rfl,hp,fun Z w xs hz hgl hx=>?_⟩
 refine (q3 w.heap.size w ⟨fun _=>none,Z⟩ w xs (Inv.scope w Z hz) hgl hx).mono ?_
 rintro e w' ⟨g',h1,h2,h3⟩
 refine ⟨h2.inv.below,?_⟩
 have fz:=frz_both (g2:=⟨fun _=>none,zone Z w w'⟩) h2.inv (fun b hb=>by
  rcases h2.z b hb with h4 | h4
  ·exact .inl h4
  ·exact .inr ⟨h4,h2.inv.zlt b hb⟩) (fun i l b hl hbk=>by
  have:=h2.inv.own i l b hl hbk
  exact .inr ⟨this.1,this.2.2⟩)
 rcases h1 with ⟨y,rfl,h1⟩ | ⟨q,y,rfl,rfl,h1⟩
 ·exact .inl ⟨y,rfl,((fz deep).1 u _ k3).val y h1⟩
 ·have:∃ r',frz x.2.2.1 1152921504606846975 q=some r'∧r=.pan r':=by
   rw [show deep=1152921504606846975 + 1 from rfl,frz_pan] at k3
   obtain ⟨r',k4,k5⟩:=bnd_some k3
   simp only [Option.some.injEq] at k5
   exact ⟨r',k4,k5.symm⟩
  obtain ⟨r',k4,rfl⟩:=this
  exact .inr ⟨r',y,rfl,rfl,((fz _).1 q _ k4).val y h1⟩
omit [Sys] in
theorem frzs_len {h:Heap}:∀ n (vs rs:List FV),frzs h n vs=some rs→rs.length=vs.length:=by
 intro n
 induction n with
 |zero=>intro vs rs hf;cases vs with
  |nil=>simp only [frzs,Option.some.injEq] at hf;subst hf;rfl
  |cons=>simp [frzs] at hf
 |succ n ih=>intro vs rs hf;cases vs with
  |nil=>simp only [frzs,Option.some.injEq] at hf;subst hf;rfl
  |cons v vs =>
   simp only [frzs] at hf
   obtain ⟨r,_,hf⟩:=bnd_some hf
   obtain ⟨rr,k,hf⟩:=bnd_some hf
   simp only [Option.some.injEq] at hf;subst hf
   simp [ih _ _ k]
theorem enter_isf {rdO:Nat→Option Rd} (hrk:∀ f r ct,RkOf P cm rdO f r ct→Sys.rk f r ct) {cal:Call} (hcal:CalOkP P cal) (hst:Stable (np cal) cm) (hmix:P.follows .mixedOrders=true) {n f:Nat} {d:Fn} (hok:okFn P cm rdO f d=true) (hmode:d.mode=.isf) {args:List FV} {nx nx':Nat} {v:FV}
  (he:enter cal n d args h nx=some (v,h',nx')):entered P f=true∧h'=h∧nx'=nx∧∀ B w0 g w xs,Inv B w0 g h w→GlOk g w→RL g w args xs →
   Calls P f xs.toArray w fun e w'=>∃ g',EndR g' w' v e∧Nx B w0 g g' h w w'∧KNew g g' h h (fun i=>nx ≤ i∧i < nx):=by
 unfold enter at he
 obtain ⟨hnp,he⟩:=chk_some he
 rw [hmode] at he
 simp only at he
 obtain ⟨as,k0,he⟩:=bnd_some he
 obtain ⟨x,k1,he⟩:=bnd_some he
 obtain ⟨u,k2,he⟩:=bnd_some he
 obtain ⟨k3,he⟩:=chk_some he
 simp only [Option.some.injEq,Prod.mk.injEq] at he
 obtain ⟨rfl,rfl,rfl⟩:=he
 have hlen:as.length=args.length:=frzs_len _ _ _ k0
 obtain ⟨q1,q2,q3⟩:=body_sound hrk hcal hst hmix hok (by rw [hlen];exact hnp) k1 k2 (fun i _=>rfl)
 refine ⟨q1,rfl,rfl,fun B w0 g w xs hI hgl hx=>?_⟩
 have hx2:=((frz_both (g2:=⟨fun _=>none,fun b=>b < w.heap.size⟩) hI (fun b hb=>hI.zlt b hb) (fun i l b hl hbk=>(hI.own i l b hl hbk).2.2) deep).2 args as k0).val xs hx
 refine (q3 w.heap.size w ⟨fun _=>none,fun b=>b < w.heap.size⟩ w xs (Inv.scope w _ (fun _ h=>h)) (hgl.scope fun b hb=>hI.zlt b hb) hx2).mono ?_
 rintro e w' ⟨g',h1,h2,h3⟩
 rcases h1 with ⟨y,rfl,h1⟩ | ⟨q,y,rfl,rfl,h1⟩
 ·exact ⟨⟨g.κ,zone g.Z w w'⟩,.inl ⟨y,rfl,h1.flat k3⟩,Nx.scope hI h2.inv.below,fun _ _ h=>⟨h,rfl⟩⟩
 ·simp [flat] at k3
theorem enter_isc {rdO:Nat→Option Rd} (hrk:∀ f r ct,RkOf P cm rdO f r ct→Sys.rk f r ct) {cal:Call} (hcal:CalOkP P cal) (hst:Stable (np cal) cm) (hmix:P.follows .mixedOrders=true) {n f:Nat} {d:Fn} (hok:okFn P cm rdO f d=true) (hmode:d.mode=.isc) {args:List FV} {nx nx':Nat} {v:FV}
  (he:enter cal n d args h nx=some (v,h',nx')):entered P f=true∧h'=froze h (idL h deep args)∧nx'=nx∧∀ B w0 g w xs,Inv B w0 g h w→GlOk g w→RL g w args xs →
   Calls P f xs.toArray w fun e w'=>∃ g',EndR g' w' v e∧Nx B w0 g g' h' w w'∧KNew g g' h h' (fun i=>nx ≤ i∧i < nx):=by
 unfold enter at he
 obtain ⟨hnp,he⟩:=chk_some he
 rw [hmode] at he
 simp only at he
 obtain ⟨as,k0,he⟩:=bnd_some he
 obtain ⟨x,k1,he⟩:=bnd_some he
 obtain ⟨u,k2,he⟩:=bnd_some he
 obtain ⟨r,k3,he⟩:=bnd_some he
 simp only [Option.some.injEq,Prod.mk.injEq] at he
 obtain ⟨rfl,rfl,rfl⟩:=he
 have hlen:as.length=args.length:=frzs_len _ _ _ k0
 obtain ⟨q1,q2,q3⟩:=body_sound hrk hcal hst hmix hok (by rw [hlen];exact hnp) k1 k2 (fun i _=>rfl)
 refine ⟨q1,rfl,rfl,fun B w0 g w xs hI hgl hx=>?_⟩
 have hx2:=((frz_ids (g2:=⟨fun _=>none,ZF g h (idL h deep args)⟩) hI (fun b hb=>.inl hb) deep).2 args as k0 (fun i hi es xs hg l b hl hb=>.inr ⟨i,hi,es,xs,hg,l,hl,hb⟩)).val xs hx
 have hI2:=froze_inv (idL h deep args) g h hI
 refine (q3 w.heap.size w ⟨fun _=>none,ZF g h (idL h deep args)⟩ w xs (Inv.scope w _ hI2.zlt) (hgl.scope fun b hb=>.inl hb) hx2).mono ?_
 rintro e w' ⟨g',h1,h2,h3⟩
 have fz:=frz_both (g2:=⟨fun _=>none,zone (ZF g h (idL h deep args)) w w'⟩) h2.inv (fun b hb=>by
  rcases h2.z b hb with h4 | h4
  ·exact .inl h4
  ·exact .inr ⟨h4,h2.inv.zlt b hb⟩) (fun i l b hl hbk=>by
  have:=h2.inv.own i l b hl hbk
  exact .inr ⟨this.1,this.2.2⟩)
 have up:∀ v x,R ⟨fun _=>none,zone (ZF g h (idL h deep args)) w w'⟩ w' v x→R ⟨g.κ,zone (ZF g h (idL h deep args)) w w'⟩ w' v x:=fun v x hr=>R.mono (g:=⟨fun _=>none,zone (ZF g h (idL h deep args)) w w'⟩) (g':=⟨g.κ,zone (ZF g h (idL h deep args)) w w'⟩) (w':=w') ⟨fun _ h=>h,fun _ _=>rfl,fun id l h=>by simp at h⟩ hr
 have hN:=Nx.scope hI2 h2.inv.below
 have hN2:Nx B w0 g ⟨g.κ,zone (ZF g h (idL h deep args)) w w'⟩ (froze h (idL h deep args)) w w':=by
  refine ⟨hN.inv,GLe.trans (g':=⟨g.κ,ZF g h (idL h deep args)⟩) (w':=w) ⟨fun b h=>.inl h,fun _ _=>rfl,KLe.refl _⟩ hN.le,fun b hb=>?_,hN.sz⟩
  rcases hN.z b hb with (hb | ⟨i,_,_,_,_,l,k1,k2⟩) | hb
  ·exact .inl hb
  ·exact .inr (hI.own i l b k1 k2).1
  ·exact .inr hb
 have hK:KNew g ⟨g.κ,zone (ZF g h (idL h deep args)) w w'⟩ h (froze h (idL h deep args)) (fun i=>nx ≤ i∧i < nx):=fun i _ hk=>⟨hk,froze_get _ _ fun hm=>by
  obtain ⟨l,hl⟩:=(ids_known hI deep).2 _ _ hx i hm
  rw [hk] at hl;cases hl⟩
 refine ⟨⟨g.κ,zone (ZF g h (idL h deep args)) w w'⟩,?_,hN2,hK⟩
 rcases h1 with ⟨y,rfl,h1⟩ | ⟨q,y,rfl,rfl,h1⟩
 ·exact .inl ⟨y,rfl,up _ _ (((fz deep).1 u _ k3).val y h1)⟩
 ·have:∃ r',frz x.2.2.1 1152921504606846975 q=some r'∧r=.pan r':=by
   rw [show deep=1152921504606846975 + 1 from rfl,frz_pan] at k3
   obtain ⟨r',k4,k5⟩:=bnd_some k3
   simp only [Option.some.injEq] at k5
   exact ⟨r',k4,k5.symm⟩
  obtain ⟨r',k4,rfl⟩:=this
  exact .inr ⟨r',y,rfl,rfl,up _ _ (((fz _).1 q _ k4).val y h1)⟩
theorem run_recover {ρ:Operand→Value} {dst:Option Tmp} {ts:Array TypeId} {ty:TypeId} {pos:String} {aft:Array Edge} {gd:Option (Nat × Bool)}:(execOp ρ ⟨dst,.call ⟨.builtin .recover,#[],ts⟩,ty,pos,aft,gd⟩).run P w=.ok .recover w:=by
 simp [execOp,resolve,go_sem,invoke]
theorem handler_sound {rdO:Nat→Option Rd} (hrk:∀ f r ct,RkOf P cm rdO f r ct→Sys.rk f r ct) {cal:Call} (hcal:CalOkP P cal) (hst:Stable (np cal) cm) (hmix:P.follows .mixedOrders=true) {n gf:Nat} {gn:Func} {hb:Code} {c:C} {id:Nat} {t:Nat} {ty:TypeId} {pos:String} {aft:Array Edge} {ts:Array TypeId}
  (hgn:P.funcs[gf]? = some gn) (hbody:gn.body=some (.seq (.region id #[⟨some t,.call ⟨.builtin .recover,#[],ts⟩,ty,pos,aft,none⟩] false) hb)) (hok:okC P cm rdO gn.ntmps hb c=true) (hres:gn.results=#[]) (ht:t < gn.ntmps) {caps:List FV} {vals:List Value} (hlen:caps.length ≤ gn.ntmps)
  {u:FV} {nx:Nat} {z:Ex × Tm × Heap × Nat} (hr:run cal n [.code c] ((t,u)::params 0 caps) h nx=some z) (hend:isEnd z.1=true) (hf:Fresh h nx) (hI:Inv B w0 g h w) (hgl:GlOk g w) (hc:RL g w caps vals)
  (fr:Frame) (cs:List Frame) (hu:(fr.mode=.returning∧u=.nili) ∨ ∃ x,fr.mode=.panicking [{ v:=x,recovered:=false }]∧R g w u x) :
  ∃ g' w',Steps P (lone (Frame.enter P gf vals.toArray .deferred) (fr::cs) w) (lone { fr with mode:=.returning } cs w')∧(∀ v x,R g w v x→R g' w' v x)∧Inv B w0 g' z.2.2.1 w'∧(∀ b,g'.Z b→g.Z b ∨ B ≤ b)∧GLe g g' w w':=by
 obtain ⟨ex,m',h',nx'⟩:=z
 let bd:Frame:={ (default:Frame) with fn:=gf,kind:=.deferred,roundOf:=none }
 have hlen':=hc.length
 have henter:Frame.enter P gf vals.toArray .deferred=bd.atR ⟨vals.toArray ++ Array.replicate (gn.ntmps - vals.length) undef,[]⟩ [.code (.seq (.region id #[⟨some t,.call ⟨.builtin .recover,#[],ts⟩,ty,pos,aft,none⟩] false) hb)]:=by
  simp [Frame.enter,Frame.atR,hgn,hbody,bd]
 have hRT0:=RT_params hc hgl (gn.ntmps - vals.length)
 have hsz0:(⟨vals.toArray ++ Array.replicate (gn.ntmps - vals.length) undef,[]⟩:Act).tmps.size=gn.ntmps:=by simp;omega
 have hdf0:(⟨vals.toArray ++ Array.replicate (gn.ntmps - vals.length) undef,[]⟩:Act).defers=[]:=rfl
 generalize (⟨vals.toArray ++ Array.replicate (gn.ntmps - vals.length) undef,[]⟩:Act)=a0 at *
 have hrec:∃ x u',R g w u x∧a0.defers=a0.defers∧settle u'=.returning∧Steps P (lone (bd.atR a0 [.code (.seq (.region id #[⟨some t,.call ⟨.builtin .recover,#[],ts⟩,ty,pos,aft,none⟩] false) hb)]) (fr::cs) w) (lone (bd.atR (a0.put (some t) x) [.code hb]) ({ fr with mode:=u' }::cs) w):=by
  have s0:Steps P (lone (bd.atR a0 [.code (.seq (.region id #[⟨some t,.call ⟨.builtin .recover,#[],ts⟩,ty,pos,aft,none⟩] false) hb)]) (fr::cs) w) (lone (bd.atR a0 (.inRegion #[⟨some t,.call ⟨.builtin .recover,#[],ts⟩,ty,pos,aft,none⟩] [0]::[.code hb])) (fr::cs) w) :=
   Steps.trans (.one stepR_seq) (.one stepR_region)
  have go:∀ (x:Value) (cs':List Frame),(match recoverD (fr::cs) with
     |some (v,cs')=>(v,cs')
     |none=>(.nilIface,fr::cs))=(x,cs')→Steps P (lone (bd.atR a0 (.inRegion #[⟨some t,.call ⟨.builtin .recover,#[],ts⟩,ty,pos,aft,none⟩] [0]::[.code hb])) (fr::cs) w) (lone (bd.atR (a0.put (some t) x) [.code hb]) cs' w):=by
   intro x cs' hx
   have hwp:wpOpsSIn (fb none) 0 P #[⟨some t,.call ⟨.builtin .recover,#[],ts⟩,ty,pos,aft,none⟩] (fun e a' cs'' w'=>e=.normal∧a'=a0.put (some t) x∧cs''=cs'∧w'=w) [0] a0 (fr::cs) w:=by
    have hrr:=run_recover (P:=P) (w:=w) (ρ:=a0.eval) (dst:=some t) (ts:=ts) (ty:=ty) (pos:=pos) (aft:=aft) (gd:=none)
    have hdd:(⟨some t,.call ⟨.builtin .recover,#[],ts⟩,ty,pos,aft,none⟩:Oper).dst=some t:=rfl
    have hww:Region.wanted (⟨some t,.call ⟨.builtin .recover,#[],ts⟩,ty,pos,aft,none⟩:Oper) (yielded #[⟨some t,.call ⟨.builtin .recover,#[],ts⟩,ty,pos,aft,none⟩] a0.tmps)=true:=rfl
    generalize (⟨some t,.call ⟨.builtin .recover,#[],ts⟩,ty,pos,aft,none⟩:Oper)=o at hrr hdd hww ⊢
    unfold wpOpsSIn
    rw [show (#[o]:Array Oper)[0]? = some o from rfl]
    simp only
    refine ⟨fun _ _=>trivial,?_⟩
    rw [if_pos hww,hrr,hdd]
    simp only [wpOpsSIn]
    cases hq:recoverD (fr::cs) with
    |none=>rw [hq] at hx;simp only [Prod.mk.injEq] at hx;obtain ⟨rfl,rfl⟩:=hx;exact by simp
    |some p=>obtain ⟨v,q⟩:=p;rw [hq] at hx;simp only [Prod.mk.injEq] at hx;obtain ⟨rfl,rfl⟩:=hx;exact by simp
   obtain ⟨e,a',cs'',w',_,⟨rfl,rfl,rfl,rfl⟩,harr⟩:=wp_opsSIn [0] a0 (fr::cs) w hwp bd [.code hb] rfl rfl trivial (room_fb _ _)
   exact StepsIn.steps harr
  rcases hu with ⟨hm,rfl⟩ | ⟨x,hm,hx⟩
  ·refine ⟨.nilIface,.returning,.nili,rfl,rfl,s0.trans ?_⟩
   have e:({ fr with mode:=.returning }:Frame)=fr:=by rw [← hm]
   rw [e]
   exact go _ _ (by simp [recoverD,hm])
  ·exact ⟨x,.panicking [{ v:=x,recovered:=true }],hx,rfl,rfl,s0.trans (go _ _ (by simp [recoverD,hm]))⟩
 obtain ⟨x,u',hx,_,hset,hs1⟩:=hrec
 obtain ⟨⟨q1,q3,q4⟩,q2⟩:=run_sound (nt:=gn.ntmps) (B:=B) (w0:=w0) (K0:=[]) hrk hcal hst hmix n _ _ _ _ _ _ _ _ hr _ nx (.code hb c [] [] hok .nil) (fun b c hm=>by simp at hm) (Nat.le_refl _) hf
 have hRT1:RT g w ((t,u)::params 0 caps) (a0.put (some t) x):=hRT0.put hsz0 (d:=some t) (by simp [okDst,ht]) hx
 obtain ⟨g',a',w',K',ms,fr0,r1,r2,r3,r4,r5,r5',r6,r7⟩:=q2 g w _ bd ({ fr with mode:=u' }::cs) (fun q hq=>by cases hq) (fun id hm=>by simp at hm) hRT1 (by rw [put_size];exact hsz0) hI
 rw [gcut_fresh hI hf] at r6
 have hd0:a'.defers=ms ++ []:=by
  rw [r5,put_defers]
  rw [hdf0]
 have fin:Steps P (lone fr0 ({ fr with mode:=u' }::cs) w') (lone { bd.atR a' K' with mode:=.returning } ({ fr with mode:=u' }::cs) w'):=by
  cases ex with
  |fin=>obtain ⟨e,rfl⟩:=r2;subst e;exact .one (stepR_end rfl)
  |ret=>obtain ⟨⟨k,rfl⟩,rfl⟩:=r2;exact .one (stepR_ret rfl)
  |xt id=>simp [isEnd] at hend
  |pan q=>simp [isEnd] at hend
 obtain ⟨g2,w2,l1,l2,l3,l4,l5,l6,l7,l8⟩:=leave_marks (P:=P) (ds:=[]) (u:=.returning) (by simp) hI.size ms g' w' { bd.atR a' K' with mode:=.returning } ({ fr with mode:=u' }::cs) r5' rfl hd0 r6.inv
 have hgo:({ { bd.atR a' K' with mode:=.returning } with defers:=[] }:Frame).going P w2 (.returned (.tuple #[])):=by
  refine ⟨rfl,rfl,gn,hgn,?_⟩
  simp [results,hres]
 have hlast:=step_going_returned (c:={ fr with mode:=u' }) (cs:=cs) (fr:={ { bd.atR a' K' with mode:=.returning } with defers:=[] }) (w:=w2) (P:=P) rfl hgo
 simp only [hset] at hlast
 have hle:GLe g g2 w w2:=⟨fun b hb=>l6 b (hI.zlt b hb) (r6.le.z b hb),fun b hb=>(l7 b (hI.zlt b hb)).trans (r6.le.heap b hb),by rw [l4];exact r6.le.k⟩
 refine ⟨g2,w2,?_,fun v y hv=>l3 _ _ (hv.mono r6.le),l2,fun b hb=>r6.z b (l5 b hb),hle⟩
 rw [henter]
 exact hs1.trans (Steps.trans r1 (Steps.trans fin (Steps.trans l1 (.one hlast))))
theorem resolve_defer {fo:Operand} {q:Nat} {vals:List Value} (hev:a.eval fo=.func (.func q) #[] vals.toArray) (ts:Array TypeId) (ty:TypeId):(resolve a.eval ⟨.value fo,#[],ts⟩ ty).run P w=.ok { target:=.fn (.func q) vals.toArray,args:=#[] } w:=by
 simp only [resolve,hev]
 simp [go_sem]
theorem run_defer {fo:Operand} {q:Nat} {vals:List Value} (hev:a.eval fo=.func (.func q) #[] vals.toArray) {dst:Option Tmp} {ts:Array TypeId} {ty:TypeId} {pos:String} {aft:Array Edge} {gd:Option (Nat × Bool)} :
  (Oper.semAt none a.eval ⟨dst,.defer ⟨.value fo,#[],ts⟩,ty,pos,aft,gd⟩).run P w=.ok (.defer { target:=.fn (.func q) vals.toArray,args:=#[] }) w:=by
 show (do pure (.defer (← resolve a.eval ⟨.value fo,#[],ts⟩ ty)):Sem Next).run P w=_
 simp only [Sem.run_bind,resolve_defer hev,Result.andThen_ok,Sem.run_pure]
theorem enter_ct {rdO:Nat→Option Rd} (hrk:∀ f r ct,RkOf P cm rdO f r ct→Sys.rk f r ct) {cal:Call} (hcal:CalOkP P cal) (hst:Stable (np cal) cm) (hmix:P.follows .mixedOrders=true) {n f:Nat} {c:Ct} (hok:okCt P cm rdO f c=true) {args:List FV} {nx nx':Nat} {v:FV}
  (he:enterC cal n c args h nx=some (v,h',nx')):entered P f=true∧h'=h∧nx'=nx∧pures args=true∧IsoCall P f args v:=by
 unfold enterC at he
 obtain ⟨⟨hnp,hp⟩,he⟩:=chk_some he
 obtain ⟨⟨m2,h3,nx3⟩,k1,he⟩:=bnd_some he
 obtain ⟨out,k2,he⟩:=bnd_some he
 obtain ⟨r,k3,he⟩:=bnd_some he
 simp only [Option.some.injEq,Prod.mk.injEq] at he
 obtain ⟨rfl,rfl,rfl⟩:=he
 unfold runC at k1
 obtain ⟨⟨m1,h1,nx1⟩,j1,k1⟩:=bnd_some k1
 obtain ⟨⟨ex,m2',h2,nx2⟩,j2,k1⟩:=bnd_some k1
 obtain ⟨u,j3,k1⟩:=bnd_some k1
 obtain ⟨z,j4,k1⟩:=bnd_some k1
 obtain ⟨j5,k1⟩:=chk_some k1
 simp only [Option.some.injEq,Prod.mk.injEq] at k1
 obtain ⟨rfl,rfl,rfl⟩:=k1
 unfold okCt at hok
 split at hok
 ·rename_i fn hfn
  split at hok
  ·rename_i pid pre rid ops rest hbody
   simp only [Bool.and_eq_true,decide_eq_true_eq,Bool.not_eq_true'] at hok
   obtain ⟨⟨⟨⟨⟨⟨⟨⟨o1,o2⟩,o3⟩,o4⟩,o5⟩,o6⟩,o7⟩,o8⟩,o9⟩:=hok
   split at o8
   ·rename_i d gf first caps ty1 pos1 aft1 d' as ts ty2 pos2 aft2 hops
    simp only [Bool.and_eq_true,beq_iff_eq] at o8
    obtain ⟨⟨⟨⟨⟨rfl,rfl⟩,rfl⟩,p4⟩,p5⟩,p6⟩:=o8
    have eops:=arr_of_toList hops
    have ef:first=#[]:=by simpa using p4
    have ea:as=#[]:=by simpa using p5
    subst ef;subst ea
    split at o9
    ·rename_i gn hgn
     split at o9
     ·rename_i id2 ops2 hb hbody2
      simp only [Bool.and_eq_true,decide_eq_true_eq,Bool.not_eq_true'] at o9
      obtain ⟨⟨⟨⟨⟨s1,s2⟩,s3⟩,s4⟩,s5⟩,s6⟩:=o9
      split at s6
      ·rename_i t as2 ts2 ty3 pos3 aft3 hops2
       simp only [Bool.and_eq_true,beq_iff_eq] at s6
       obtain ⟨rfl,s7⟩:=s6
       have eops2:=arr_of_toList hops2
       have ea2:as2=#[]:=by simpa using s7
       subst ea2
       have hres:gn.results=#[]:=by simpa using s3
       rw [eops2] at hbody2
       refine ⟨by simp [entered,hfn,hbody,o5],rfl,rfl,hp,fun Z w xs hz hgl hx=>?_⟩
       intro cs
       have hI:=Inv.scope w Z hz
       let b:Frame:={ (default:Frame) with fn:=f,kind:=.normal,roundOf:=none }
       have hlen:=hx.length
       have henter:Frame.enter P f xs.toArray .normal=b.atR ⟨xs.toArray ++ Array.replicate (fn.ntmps - xs.length) undef,[]⟩ [.code (.seq (.region pid pre false) (.seq (.region rid ops false) rest))]:=by
        simp [Frame.enter,Frame.atR,hfn,hbody,b]
       have hRT0:=RT_params hx hgl (fn.ntmps - xs.length)
       have hsz0:(⟨xs.toArray ++ Array.replicate (fn.ntmps - xs.length) undef,[]⟩:Act).tmps.size=fn.ntmps:=by simp;omega
       have hdf0:(⟨xs.toArray ++ Array.replicate (fn.ntmps - xs.length) undef,[]⟩:Act).defers=[]:=rfl
       generalize (⟨xs.toArray ++ Array.replicate (fn.ntmps - xs.length) undef,[]⟩:Act)=a0 at *
       have hfr0:Fresh ([]:Heap) c.pre.length:=fun i _=>rfl
       have hn0:∀ j,0 ≤ j→j < 0 + c.pre.length→hget ([]:Heap) j=none:=fun _ _ _=>rfl
       have hlen1:=(okGs_get _ _ o1).1
       have hsz1:pre.size=c.pre.length:=by simpa using hlen1
       have hwp:=rops_sound (r:=none) (n:=0) (ops:=pre) (P:=P) (nt:=fn.ntmps) (B:=w.heap.size) (w0:=w) (N:=fun _=>True) (a0:=a0) hcal.np c.pre 0 0 (params 0 args) [] c.pre.length m1 h1 nx1 ⟨fun _=>none,Z⟩ w a0 (by simpa using o1) j1 hRT0 hsz0 rfl (.refl hI) hn0 (by omega) hfr0 (fun _ _ h=>⟨h,rfl⟩) (fun _ _ _=>trivial) (fun _ _ _=>trivial)
       obtain ⟨e1,a1,w1,⟨rfl,g1,f1,f2,f3,f4,f5⟩,harr1⟩:=wp_opsIn _ a0 w hwp b [.code (.seq (.region rid ops false) rest)] cs rfl trivial (room_fb _ _)
       have st1:Steps P (lone (b.atR a0 [.code (.seq (.region pid pre false) (.seq (.region rid ops false) rest))]) cs w) (lone (b.atR a1 [.code (.seq (.region rid ops false) rest)]) cs w1):=by
        refine Steps.trans (.one stepR_seq) (Steps.trans (.one stepR_region) ?_)
        rw [List.range_eq_range',hsz1]
        exact StepsIn.steps harr1
       obtain ⟨n1,n2⟩:=rops_new hcal.np c.pre 0 _ [] c.pre.length m1 h1 nx1 hn0 (by omega) hfr0 j1
       have hfr1:Fresh h1 nx1:=fun i hi=>n2 i rfl (by omega) (.inr hi)
       have hcaps:=RL_okXs f1 p6
       have hfnR:R g1 w1 (.fn c.g (evs m1 (c.ct.map .t))) (.func (.func c.g) #[] (caps.toList.map a1.eval).toArray):=.fn _ _ _ o7 hcaps
       obtain ⟨x1,hx1⟩:∃ x1:Value,x1=.func (.func c.g) #[] (caps.toList.map a1.eval).toArray:=⟨_,rfl⟩
       have hdl:c.dst < a1.tmps.size:=by rw [f2];exact o6
       have hev2:(a1.put (some c.dst) x1).eval (.tmp c.dst)=.func (.func c.g) #[] (caps.toList.map a1.eval).toArray:=by
        simp [Act.eval,Act.put,Array.getD,hdl,hx1]
       have hwp2:wpOpsIn (fb none) 0 P ops (fun e a' w'=>e=.normal∧a'={ a1.put (some c.dst) x1 with defers:={ target:=.fn (.func c.g) (caps.toList.map a1.eval).toArray,args:=#[] }::a1.defers }∧w'=w1) (List.range ops.size) a1 w1:=by
        rw [eops]
        show wpOpsIn _ _ _ _ _ [0,1] _ _
        rw [wpOpsIn_cons]
        unfold wpOpIn
        simp only [List.getElem?_toArray,List.getElem?_cons_zero]
        have hw1:∀ (o:Oper) (hg:o.guard=none) (p:Nat→Option Bool),Region.wanted o p=true:=fun o hg p=>by simp [Region.wanted,hg]
        rw [hw1 _ rfl,if_pos rfl]
        refine ⟨fun _ _=>trivial,?_⟩
        rw [Oper.semAt_eq _ _ _ (by intro c;simp)]
        rw [exec_of_value (Instr.makeFunc (.func c.g) (#[].map a1.eval) (caps.map a1.eval)) rfl (z:=x1) (w':=w1) (by
         have e2:caps.map a1.eval=(caps.toList.map a1.eval).toArray:=by cases caps;simp
         rw [e2,hx1,show (#[]:Array Operand).map a1.eval=#[] by simp];rfl)]
        rw [Oper.uponIn_value,wpOpsIn_cons]
        unfold wpOpIn
        simp only [List.getElem?_toArray,List.getElem?_cons_succ,List.getElem?_cons_zero]
        rw [hw1 _ rfl,if_pos rfl]
        refine ⟨fun _ _=>trivial,?_⟩
        rw [show (fb none).round=none from rfl,run_defer hev2,Oper.uponIn_defer]
        exact ⟨rfl,by simp [Act.put],rfl⟩
       obtain ⟨e2,a2,w2',⟨rfl,ha2,rfl⟩,harr2⟩:=wp_opsIn _ a1 w1 hwp2 b [.code rest] cs rfl trivial (room_fb _ _)
       have st2:Steps P (lone (b.atR a1 [.code (.seq (.region rid ops false) rest)]) cs w2') (lone (b.atR a2 [.code rest]) cs w2') :=
        Steps.trans (.one stepR_seq) (Steps.trans (.one stepR_region) (StepsIn.steps harr2))
       have hRT2:RT g1 w2' (put (keepOf m1 c.keep) (some c.dst) (.fn c.g (evs m1 (c.ct.map .t)))) a2:=by
        rw [ha2]
        exact ((f1.keep c.keep).put f2 (d:=some c.dst) (by simp [okDst,o6]) (by rw [hx1];exact hfnR)).defers _
       have hsz2:a2.tmps.size=fn.ntmps:=by rw [ha2];show (a1.put (some c.dst) x1).tmps.size=_;rw [put_size];exact f2
       obtain ⟨⟨q1,q3,q4⟩,q2⟩:=run_sound (nt:=fn.ntmps) (B:=w.heap.size) (w0:=w) (K0:=[]) hrk hcal hst hmix n _ _ _ _ _ _ _ _ j2 _ nx1 (.code rest c.rest [] [] o2 .nil) (fun b c hm=>by simp at hm) (Nat.le_refl _) hfr1
       obtain ⟨g3,a3,w3,K',ms,fr0,r1,r2,r3,r4,r5,r5',r6,r7⟩:=q2 g1 w2' a2 b cs (fun q hq=>by cases hq) (fun id hm=>by simp at hm) hRT2 hsz2 f4.inv
       rw [gcut_fresh f4.inv hfr1] at r6
       have hdef:a3.defers=ms ++ [{ target:=.fn (.func c.g) (caps.toList.map a1.eval).toArray,args:=#[] }]:=by
        rw [r5,ha2,f3,hdf0]
       have hmode:∃ md:FrameMode,md ≠ .run∧Steps P (lone fr0 cs w3) (lone { b.atR a3 K' with mode:=md } cs w3)∧((md=.returning∧u=.nili) ∨ ∃ x,md=.panicking [{ v:=x,recovered:=false }]∧R g3 w3 u x):=by
        cases ex with
        |fin =>
         obtain ⟨e,rfl⟩:=r2
         subst e
         simp only [caught,Option.some.injEq] at j3
         exact ⟨.returning,by simp,.one (stepR_end rfl),.inl ⟨rfl,j3.symm⟩⟩
        |ret =>
         obtain ⟨⟨k,rfl⟩,rfl⟩:=r2
         simp only [caught,Option.some.injEq] at j3
         exact ⟨.returning,by simp,.one (stepR_ret rfl),.inl ⟨rfl,j3.symm⟩⟩
        |xt id=>simp [caught] at j3
        |pan q =>
         obtain ⟨x,hx2,rfl⟩:=r2
         simp only [caught,Option.some.injEq] at j3
         subst j3
         exact ⟨.panicking [{ v:=x,recovered:=false }],by simp,.refl _ _,.inr ⟨x,rfl,hx2⟩⟩
       obtain ⟨md,hmd,st3,hmu⟩:=hmode
       obtain ⟨g4,w4,l1,l2,l3,l4,l5,l6,l7,l8⟩:=leave_marks (P:=P) hmd f4.inv.size ms g3 w3 { b.atR a3 K' with mode:=md } cs r5' rfl hdef r6.inv
       have hgo1:GLe g1 g4 w2' w4:=⟨fun b hb=>l6 b (f4.inv.zlt b hb) (r6.le.z b hb),fun b hb=>(l7 b (f4.inv.zlt b hb)).trans (r6.le.heap b hb),by rw [l4];exact r6.le.k⟩
       have hent:entered P c.g=true:=by simp [entered,hgn,hbody2,s4]
       have hinv:(invoke (.fn (.func c.g) (caps.toList.map a1.eval).toArray) #[]).run P w4=.ok (.enter c.g (caps.toList.map a1.eval).toArray) w4:=by
        have:=run_callFunc hent (#[] ++ (caps.toList.map a1.eval).toArray) w4
        simp only [invoke]
        rw [this]
        simp
       have st5:=step_defer (P:=P) (cs:=cs) (w:=w4) (fr:={ { b.atR a3 K' with mode:=md } with defers:=[{ target:=.fn (.func c.g) (caps.toList.map a1.eval).toArray,args:=#[] }] }) hmd rfl rfl hinv
       obtain ⟨g5,w5,y1,y2,y3,y4,y5⟩:=handler_sound hrk hcal hst hmix hgn hbody2 s1 hres s5 (caps:=evs m1 (c.ct.map .t)) (vals:=caps.toList.map a1.eval) (by
        have:∀ (m:Tm) (l:List X),(evs m l).length=l.length:=by intro m l;induction l with
         |nil=>rfl
         |cons _ _ ih=>simp [evs,ih]
        rw [this];simpa using s2) j4 j5 (h:=h2) (fun i hi=>q3 i hi) l2 (fun k cs hk=>(hRT2.gl k cs hk).mono hgo1) (hcaps.mono hgo1) { { b.atR a3 K' with mode:=md } with defers:=[] } cs (by
        rcases hmu with ⟨e1,e2⟩ | ⟨x,e1,e2⟩
        ·exact .inl ⟨e1,e2⟩
        ·exact .inr ⟨x,e1,l3 _ _ e2⟩)
       obtain ⟨yv,z2,z3⟩:=results_sound y3 ((r3.map l3).map y2) o4 k2
       refine ⟨.returned yv,w5,{ { { b.atR a3 K' with mode:=md } with defers:=[] } with mode:=.returning },⟨yv,rfl,y3.below,?_⟩,?_,rfl,rfl,rfl,rfl,fn,hfn,z2⟩
       ·have hzz:∀ b,g5.Z b→Z b ∨ w.heap.size ≤ b:=fun b hb=>by
         rcases y4 b hb with h | h
         ·rcases r6.z b (l5 b h) with h | h
          ·rcases f4.z b h with h | h
           ·exact .inl h
           ·exact .inr h
          ·exact .inr h
         ·exact .inr h
        exact ((frz_both (g2:=⟨fun _=>none,zone Z w w5⟩) y3 (fun b hb=>by
         rcases hzz b hb with h | h
         ·exact .inl h
         ·exact .inr ⟨h,y3.zlt b hb⟩) (fun i l b hl hbk=>by
         have:=y3.own i l b hl hbk
         exact .inr ⟨this.1,this.2.2⟩) deep).1 _ _ k3).val yv z3
       ·rw [henter]
        exact st1.trans (st2.trans (Steps.trans r1 (st3.trans (l1.trans (Steps.trans (.one st5) y1)))))
      ·simp at s6
     ·simp at o9
    ·simp at o9
   ·simp at o8
  ·simp at hok
 ·simp at hok
end
end Go.FI
