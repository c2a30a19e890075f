/- A function that walks through a map,in whatever order the machine takes. -/
import Derived.Test.YtkobnfjeehnhlaaGreatDoorFICall
import Derived.Laws.IdiomRangeMap
set_option linter.all false
namespace Go.FI
open Go.RowKit
variable [Sys]
section
variable {P:Program} {B:Nat} {w0:World} {g g':Gh} {w w2:World} {h h':Heap} {m:Tm} {a:Act} {nt:Nat} {cm:Nat→Nat}
structure Wr (w w2:World) (ib:Nat):Prop where
 old:∃ m s sn k,w.heap[ib]? = some (.mapIter m s sn k)
 new:∃ m s sn k,w2.heap[ib]? = some (.mapIter m s sn k)
 oth:∀ b,b ≠ ib→w2.heap[b]? = w.heap[b]?
 sz:w2.heap.size=w.heap.size
 os:w2.os=w.os
 tape:w2.tape=w.tape
 output:w2.output=w.output
theorem Wr.cell {ib:Nat} (hw:Wr w w2 ib) {b o:Nat} {v:Value} (h:w.cell? ⟨b,o,none⟩=some v):w2.cell? ⟨b,o,none⟩=some v:=by
 have hne:b ≠ ib:=fun e=>by
  subst e
  obtain ⟨m,s,sn,k,h1⟩:=hw.old
  simp [World.cell?,h1] at h
 rw [cell_of_heap (a:=⟨b,o,none⟩) (hw.oth b hne)]
 exact h
mutual
theorem R.reput {ib:Nat} (hw:Wr w w2 ib):∀ {v:FV} {x:Value},R g w v x→R g w2 v x
 |_,_,.undef v=>.undef v
 |_,_,.bool b=>.bool b
 |_,_,.int k n=>.int k n
 |_,_,.str s=>.str s
 |_,_,.agg cs vs hr=>.agg cs vs (RL.reput hw hr)
 |_,_,.tup cs vs hr=>.tup cs vs (RL.reput hw hr)
 |_,_,.lst0 e a cap he=>.lst0 e a cap he
 |_,_,.lst e xs b o es cap cs hne he hle hZ hes hx hr hc=>.lst e xs b o es cap cs hne he hle hZ hes hx (RL.reput hw hr) fun j v hj=>hw.cell (hc j v hj)
 |_,_,.eptr cs off b o vs hne hZ hr hc=>.eptr cs off b o vs hne hZ (RL.reput hw hr) fun j v hj=>hw.cell (hc j v hj)
 |_,_,.ptr id s i off l a hk hs hh=>.ptr id s i off l a hk hs hh
 |_,_,.nilp=>.nilp
 |_,_,.sref es id s off len l a cap hk he hs hle ha hh=>.sref es id s off len l a cap hk he hs hle ha hh
 |_,_,.map id b l hk hm hb=>.map id b l hk hm hb
 |_,_,.nilm=>.nilm
 |_,_,.fn f cs vs hlt hr=>.fn f cs vs hlt (RL.reput hw hr)
 |_,_,.nilf=>.nilf
 |_,_,.ifc t v x hr=>.ifc t v x (R.reput hw hr)
 |_,_,.nili=>.nili
 |_,_,.yl f id cs l b r ct hge hk hm hb hr hf hc=>.yl f id cs l b r ct hge hk hm hb hr hf (RL.reput hw hc)
theorem RL.reput {ib:Nat} (hw:Wr w w2 ib):∀ {vs:List FV} {xs:List Value},RL g w vs xs→RL g w2 vs xs
 |_,_,.nil=>.nil
 |_,_,.cons v x vs xs hr hs=>.cons v x vs xs (R.reput hw hr) (RL.reput hw hs)
end
theorem EnOk.reput {ib:Nat} (hw:Wr w w2 ib) {en:List (FV × FV)} {es:List MapEntry} (he:EnOk g w en es):EnOk g w2 en es:=by
 induction he with
 |nil=>exact .nil
 |cons k v e en es hk hv hs ih=>exact .cons k v e en es (hk.reput hw) (hv.reput hw) ih
theorem RT.reput {ib:Nat} (hw:Wr w w2 ib) (hm:RT g w m a):RT g w2 m a:=hm.map fun _ _ h=>h.reput hw
theorem Inv.reput {ib:Nat} (hI:Inv B w0 g h w) (hw:Wr w w2 ib) (hB:B ≤ ib):Inv B w0 g h w2:=by
 have old:=hw.old
 obtain ⟨im,is,isn,ik,hold⟩:=old
 refine ⟨hI.dom,fun i o l ho hl=>?_,hI.inj,fun i l b hl hb=>by rw [hw.sz];exact hI.own i l b hl hb,fun b hb=>by rw [hw.sz];exact hI.zlt b hb,?_,by rw [hw.sz];exact hI.size⟩
 ·have hob:=hI.obj i o l ho hl
  have row:∀ es xs,RowOk g w l es xs→RowOk g w2 l es xs:=fun es xs hr=>by
   obtain ⟨k1,k2,k3,k4,k5,k6,k7⟩:=hr
   refine ⟨k1,k2,k3,k4,k5,k6,fun bb hb=>?_⟩
   obtain ⟨arr,t,q1,q2,q3,cs,q4,q5⟩:=k7 bb hb
   have hne:bb ≠ ib:=fun e=>by subst e;rw [hold] at q1;cases q1
   exact ⟨arr,t,by rw [hw.oth bb hne];exact q1,q2,q3,cs,q4.reput hw,q5⟩
  have mp:∀ en,MapOk g w l en→MapOk g w2 l en:=fun en hr=>by
   obtain ⟨k1,k1',bb,es,clock,q1,q2,q3,q4⟩:=hr
   have hne:bb ≠ ib:=fun e=>by subst e;rw [hold] at q2;cases q2
   exact ⟨k1,k1',bb,es,clock,q1,by rw [hw.oth bb hne];exact q2,q3.reput hw,q4⟩
  cases o with
  |row es xs=>exact row es xs hob
  |fro es xs=>exact ⟨row es xs hob.1,hob.2⟩
  |mp en=>exact mp en hob
  |fmp en=>exact ⟨mp en hob.1,hob.2⟩
  |lp st jp =>
   obtain ⟨k1,bb,rr,q1,q2,q3⟩:=(hob:LpOk w l st jp)
   have hne:bb ≠ ib:=fun e=>by subst e;rw [hold] at q3;cases q3
   exact ⟨k1,bb,rr,q1,q2,by rw [hw.oth bb hne];exact q3⟩
  |sit s pos =>
   obtain ⟨k1,k2,k3,bb,q1,q2⟩:=(hob:SitOk w l s pos)
   have hne:bb ≠ ib:=fun e=>by subst e;rw [hold] at q2;cases q2
   exact ⟨k1,k2,k3,bb,q1,by rw [hw.oth bb hne];exact q2⟩
  |mit =>
   obtain ⟨k1,k2,k3,bb,m,s,sn,k,q1,qz,q2⟩:=(hob:MitOk g w l)
   by_cases e:bb=ib
   ·subst e
    obtain ⟨m',s',sn',k',h1⟩:=hw.new
    exact ⟨k1,k2,k3,bb,m',s',sn',k',q1,qz,h1⟩
   ·exact ⟨k1,k2,k3,bb,m,s,sn,k,q1,qz,by rw [hw.oth bb e];exact q2⟩
 ·exact hI.below.trans ⟨hw.os,hw.tape,hw.output,Nat.le_of_eq hw.sz.symm,fun k hk=>hw.oth k (by omega)⟩
theorem Marks.reput {ib lo:Nat} (hw:Wr w w2 ib):∀ {ds:List Deferred},Marks g w lo ds→Marks g w2 lo ds:=by
 intro ds
 induction ds with
 |nil=>intro _;trivial
 |cons d ds ih =>
  rintro ⟨⟨r,h1,h2,h3,h4,h5⟩,h6⟩
  refine ⟨⟨r,h1,h2,h3,?_,h5⟩,ih h6⟩
  have hne:r ≠ ib:=fun e=>by
   subst e
   obtain ⟨m,s,sn,k,ho⟩:=hw.old
   rw [ho] at h4;cases h4
  rw [hw.oth r hne];exact h4
theorem two_ops {rid:Nat} {ops:Array Oper} {o1 o2:Oper} (ho:ops.toList=[o1,o2]) (hg1:o1.guard=none) (hg2:o2.guard=none) (hd1:∀ c,o1.op ≠ .defer c) (hd2:∀ c,o2.op ≠ .defer c) {v1 v2:Value} {w1 w2:World}
  (h1:(execOp a.eval o1).run P w=.ok (.value v1) w1) (h2:(execOp (a.put o1.dst v1).eval o2).run P w1=.ok (.value v2) w2) (b:Frame) (k:List Item) (cs:List Frame) :
  Steps P (lone (b.atR a (.code (.region rid ops false)::k)) cs w) (lone (b.atR ((a.put o1.dst v1).put o2.dst v2) k) cs w2):=by
 have eops:ops=#[o1,o2]:=by cases ops;simp at ho;simp [ho]
 have hwp:wpOpsIn (fb b.roundOf) 0 P ops (fun e a' w'=>e=.normal∧a'=(a.put o1.dst v1).put o2.dst v2∧w'=w2) (List.range ops.size) a w:=by
  rw [eops]
  show wpOpsIn _ _ _ _ _ [0,1] _ _
  rw [wpOpsIn_cons]
  unfold wpOpIn
  simp only [List.getElem?_toArray,List.getElem?_cons_zero]
  have hw1:∀ (o:Oper) (hg:o.guard=none) (p:Nat→Option Bool),Region.wanted o p=true:=fun o hg p=>by simp [Region.wanted,hg]
  rw [hw1 _ hg1,if_pos rfl]
  refine ⟨fun _ _=>trivial,?_⟩
  rw [Oper.semAt_eq _ _ _ hd1,h1,Oper.uponIn_value,wpOpsIn_cons]
  unfold wpOpIn
  simp only [List.getElem?_toArray,List.getElem?_cons_succ,List.getElem?_cons_zero]
  rw [hw1 _ hg2,if_pos rfl]
  refine ⟨fun _ _=>trivial,?_⟩
  rw [Oper.semAt_eq _ _ _ hd2,h2,Oper.uponIn_value]
  exact ⟨rfl,rfl,rfl⟩
 obtain ⟨e,a',w',⟨rfl,rfl,rfl⟩,harr⟩:=wp_opsIn _ a w hwp b k cs rfl trivial (room_fb _ _)
 exact Steps.trans (.one stepR_region) (StepsIn.steps harr)
theorem run_setObj' {b:Nat} {o:Go.Obj} {im:Option Nat} {is ik:Nat} {isn:Array Nat} (hb:w.heap[b]? = some (.mapIter im is isn ik)):(setObj b o).run P w=.ok () { w with heap:=w.heap.setIfInBounds b o }:=by
 simp [setObj,Sem.run,hb]
theorem next_step {ty:TypeId} {ib mb since last:Nat} {seen:Array Nat} {es:Array MapEntry} {clock:Nat} (hib:w.heap[ib]? = some (.mapIter (some mb) since seen last)) (hmb:w.heap[mb]? = some (.map es clock)) (hold:∀ x ∈ es.toList,x.born < since) (hsc:since ≤ last) :
  ((leftOf es seen).toList=[]∧(Instr.next (.pointer (some ⟨ib,0,none⟩)) false ty).run P w=.ok (.tuple #[.bool false]) w) ∨
  ∃ (i:Nat) (e:MapEntry) (w2:World),(leftOf es seen).toList[i]? = some e∧Wr w w2 ib∧w2.heap[ib]? = some (.mapIter (some mb) since (seen.push e.born) clock) ∧
   (Instr.next (.pointer (some ⟨ib,0,none⟩)) false ty).run P w=.ok (.tuple #[.bool true,e.key,e.val]) w2:=by
 have hg1:(getObj ib).run P w=.ok (.mapIter (some mb) since seen last) w:=by simp [getObj,Sem.run,hib]
 have hg2:(getObj mb).run P w=.ok (.map es clock) w:=by simp [getObj,Sem.run,hmb]
 simp only [Instr.next,Sem.run_bind,Sem.run_pure,hg1,hg2,Result.andThen_ok,next_test_false seen es since last hold hsc,Bool.false_eq_true,if_false]
 unfold leftOf
 have hmem:∀ x ∈ (Array.filter (fun e=>!seen.contains e.born) es).toList,x.born < since:=fun x hx=>hold x (by simp at hx ⊢; exact hx.1)
 generalize Array.filter (fun e=>!seen.contains e.born) es=L at hmem ⊢
 have e1:L.filter (fun x=>decide (x.born < since))=L:=Array.filter_eq_self.2 (fun x hx=>by simpa using hmem x (by simpa using hx))
 have e2:L.filter (fun x=>decide (x.born ≥ since))=#[]:=by
  rw [Array.filter_eq_empty_iff]
  intro x hx
  have:=hmem x (by simpa using hx)
  simp;omega
 rw [e1,e2]
 simp only [Array.append_empty]
 by_cases hL:L.toList=[]
 ·left
  refine ⟨hL,?_⟩
  have:L=#[]:=by cases L;simpa using hL
  subst this
  simp [Question.forced]
 ·right
  have hne:L.isEmpty=false:=by
   cases L with | mk l=>simp at hL ⊢; exact hL
  have hsz:0 < L.size:=by
   cases L with | mk l=>simp at hL ⊢; exact List.length_pos_iff.2 hL
  simp only [hne,Bool.false_eq_true,if_false,Array.empty_append,Array.size_map]
  obtain ⟨c,w1,hc,hlt,hw1⟩:∃ c w1,(choose (.mapNext L.size)).run P w=.ok c w1∧c < L.size∧(w1.heap=w.heap∧w1.os=w.os∧w1.tape=w.tape∧w1.output=w.output):=by
   rw [run_choose_drew]
   split
   ·exact ⟨0,w,rfl,hsz,rfl,rfl,rfl,rfl⟩
   ·exact ⟨_,w.drew,rfl,by simp only [Question.cut];exact Nat.mod_lt _ hsz,rfl,rfl,rfl,rfl⟩
  have hget:(L.map some)[c]? = some (some L[c]):=by simp [hlt]
  have hib1:w1.heap[ib]? = some (.mapIter (some mb) since seen last):=by rw [hw1.1];exact hib
  have hblt:ib < w1.heap.size:=by
   rcases Nat.lt_or_ge ib w1.heap.size with h | h
   ·exact h
   ·simp [Array.getElem?_eq_none h] at hib1
  refine ⟨c,L[c],{ w1 with heap:=w1.heap.setIfInBounds ib (.mapIter (some mb) since (seen.push L[c].born) clock) },by simp [hlt],⟨⟨_,_,_,_,hib⟩,⟨some mb,since,seen.push L[c].born,clock,by simp [hblt]⟩,fun b hb=>?_,by simp [hw1.1],hw1.2.1,hw1.2.2.1,hw1.2.2.2⟩,by simp [hblt],?_⟩
  ·show (w1.heap.setIfInBounds ib _)[b]? = _
   rw [Array.getElem?_setIfInBounds_ne (by omega),hw1.1]
  ·rw [hc]
   simp only [Result.andThen_ok,hget]
   simp only [Sem.run_bind,run_setObj' hib1,Result.andThen_ok,Sem.run_pure]
theorem entry_step {ib mb since:Nat} {seen:Array Nat} {es:Array MapEntry} {clock:Nat} {e:MapEntry} (hib:w.heap[ib]? = some (.mapIter (some mb) since (seen.push e.born) clock)) (hmb:w.heap[mb]? = some (.map es clock)) (he:e ∈ es.toList) (hn:(es.toList.map (·.born)).Nodup) :
  (Instr.entry (.pointer (some ⟨ib,0,none⟩))).run P w=.ok (.tuple #[e.key,e.val]) w:=by
 have hg1:(getObj ib).run P w=.ok (.mapIter (some mb) since (seen.push e.born) clock) w:=by simp [getObj,Sem.run,hib]
 have hg2:(getObj mb).run P w=.ok (.map es clock) w:=by simp [getObj,Sem.run,hmb]
 have hf:es.find? (·.born == e.born)=some e:=by rw [← Array.find?_toList];exact find_born e es.toList hn he
 simp only [Instr.entry,Sem.run_bind,Sem.run_pure,hg1,hg2,Result.andThen_ok,Array.back?_push,bne_self_eq_false,Bool.false_eq_true,if_false,hf]
theorem picks_get {α:Type}:∀ (l:List α) (i:Nat) (x:α),l[i]? = some x→(x,l.eraseIdx i) ∈ picks l:=by
 intro l
 induction l with
 |nil=>intro i x h;simp at h
 |cons a l ih =>
  intro i x h
  cases i with
  |zero=>simp at h;subst h;simp [picks]
  |succ i =>
   simp only [List.getElem?_cons_succ] at h
   simp only [picks,List.eraseIdx_cons_succ,List.mem_cons,List.mem_map]
   exact .inr ⟨_,ih i x h,rfl⟩
theorem same_some:∀ {l:List (Option FV)} {r:FV},same l=some r→∀ x ∈ l,x=some r:=by
 intro l
 induction l with
 |nil=>intro r h;simp [same] at h
 |cons x l ih =>
  intro r h y hy
  cases l with
  |nil=>simp only [same] at h;simp at hy;rw [hy];exact h
  |cons z l =>
   simp only [same] at h
   obtain ⟨a,h1,h⟩:=bnd_some h
   obtain ⟨b,h2,h⟩:=bnd_some h
   split at h
   ·rename_i he
    have:=eqv_eq he
    subst this
    simp only [Option.some.injEq] at h;subst h
    rcases List.mem_cons.1 hy with hy | hy
    ·rw [hy];exact h1
    ·exact ih h2 y hy
   ·simp at h
theorem EnOk.get {en:List (FV × FV)} {es:List MapEntry} (he:EnOk g w en es) {i:Nat} {e:MapEntry} (hi:es[i]? = some e):∃ k v,en[i]? = some (k,v)∧R g w k e.key∧R g w v e.val:=by
 induction he generalizing i with
 |nil=>simp at hi
 |cons k v x en es hk hv hs ih =>
  cases i with
  |zero=>simp at hi;subst hi;exact ⟨k,v,rfl,hk,hv⟩
  |succ i=>simp at hi;exact ih hi
theorem EnOk.erase {en:List (FV × FV)} {es:List MapEntry} (he:EnOk g w en es):∀ i,EnOk g w (en.eraseIdx i) (es.eraseIdx i):=by
 induction he with
 |nil=>intro i;exact .nil
 |cons k v x en es hk hv hs ih =>
  intro i
  cases i with
  |zero=>exact hs
  |succ i=>exact .cons k v x _ _ hk hv (ih i)
theorem EnOk.len {en:List (FV × FV)} {es:List MapEntry} (he:EnOk g w en es):en.length=es.length:=by
 induction he<;>simp_all
theorem left_erase:∀ (l:List MapEntry) (p:Nat→Bool),(l.map (·.born)).Nodup→∀ (i:Nat) (e:MapEntry),(l.filter fun x=>p x.born)[i]? = some e→l.filter (fun x=>p x.born && x.born != e.born)=(l.filter fun x=>p x.born).eraseIdx i:=by
 intro l
 induction l with
 |nil=>intro p _ i e h;simp at h
 |cons x l ih =>
  intro p hn i e h
  simp only [List.map_cons,List.nodup_cons] at hn
  have hmem:∀ (j:Nat) (y:MapEntry),(l.filter fun x=>p x.born)[j]? = some y→y.born ∈ l.map (·.born):=fun j y hy=>List.mem_map_of_mem (List.mem_filter.1 (List.mem_of_getElem? hy)).1
  by_cases hp:p x.born=true
  ·simp only [List.filter_cons,hp,if_true] at h
   cases i with
   |zero =>
    simp at h;subst h
    simp only [List.filter_cons,hp,if_true,bne_self_eq_false,Bool.and_false,Bool.false_eq_true,if_false,List.eraseIdx_cons_zero]
    apply List.filter_congr
    intro y hy
    have:y.born ≠ x.born:=fun e=>hn.1 (by rw [← e];exact List.mem_map_of_mem hy)
    simp [this]
   |succ i =>
    simp only [List.getElem?_cons_succ] at h
    have hne:x.born ≠ e.born:=fun e'=>hn.1 (by rw [e'];exact hmem i e h)
    have hne':(x.born != e.born)=true:=by simp [hne]
    simp only [List.filter_cons,hp,hne',if_true,Bool.and_self,List.eraseIdx_cons_succ,ih p hn.2 i e h]
  ·have hp':p x.born=false:=by simpa using hp
   simp only [List.filter_cons,hp',Bool.false_eq_true,if_false,Bool.false_and] at h ⊢
   exact ih p hn.2 i e h
theorem left_push {es:Array MapEntry} {seen:Array Nat} (hn:(es.toList.map (·.born)).Nodup) {i:Nat} {e:MapEntry} (h:(leftOf es seen).toList[i]? = some e):(leftOf es (seen.push e.born)).toList=(leftOf es seen).toList.eraseIdx i:=by
 unfold leftOf at *
 rw [Array.toList_filter] at *
 rw [Array.toList_filter]
 rw [← left_erase es.toList (fun b=>!seen.contains b) hn i e h]
 apply List.filter_congr
 intro x _
 rw [Array.contains_push]
 simp [Bool.not_or,bne]
def EndM (P:Program) (f:Nat) (w00:World) (Z:Nat→Prop) (r:FV) (b:Frame) (cs:List Frame) (a:Act) (K:List Item) (w:World):Prop :=
 ∃ x w' fr,Below w00.heap.size w00 w'∧R ⟨fun _=>none,zone Z w00 w'⟩ w' r x∧Steps P (lone (b.atR a K) cs w) (lone fr cs w')∧fr.fn=f∧fr.leaving P w' (.returned x)
theorem EndM.step {f:Nat} {w00:World} {Z:Nat→Prop} {r:FV} {b:Frame} {cs:List Frame} {a a':Act} {K K':List Item} (hs:Steps P (lone (b.atR a K) cs w) (lone (b.atR a' K') cs w2)) (h:EndM P f w00 Z r b cs a' K' w2):EndM P f w00 Z r b cs a K w:=by
 obtain ⟨x,w',fr,h1,h2,h3,h4⟩:=h
 exact ⟨x,w',fr,h1,h2,hs.trans h3,h4⟩
structure StM (nt:Nat) (w00:World) (Z:Nat→Prop) (g:Gh) (h:Heap) (w:World) (m:Tm) (a:Act) (nx:Nat):Prop where
 inv:Inv w00.heap.size w00 g h w
 rt:RT g w m a
 size:a.tmps.size=nt
 z:∀ b,g.Z b→Z b ∨ w00.heap.size ≤ b
 marks:Marks g w w00.heap.size a.defers
 fresh:Fresh h nx
variable {rdO:Nat→Option Rd} {cal:Call} {w00:World} {Z:Nat→Prop}
theorem StM.run (hrk:∀ f r ct,RkOf P cm rdO f r ct→Sys.rk f r ct) (hcal:CalOkP P cal) (hst:Stable (np cal) cm) (hmix:P.follows .mixedOrders=true) {c:Code} {d:C} (hok:okC P cm rdO nt c d=true) {n nx:Nat} {x:Ex × Tm × Heap × Nat}
  (hr:run cal n [.code d] m h nx=some x) (hS:StM nt w00 Z g h w m a nx) {b:Frame} (hb:b.roundOf=none) (cs:List Frame) (K:List Item) (hx:x.1=.fin ∨ x.1=.ret) :
  ∃ g' a' w' K',Steps P (lone (b.atR a (.code c::K)) cs w) (lone (b.atR a' K') cs w')∧(x.1=.fin∧K'=K ∨ x.1=.ret∧∃ r,K'=.code .ret::r)∧StM nt w00 Z g' x.2.2.1 w' x.2.1 a' x.2.2.2∧Nx w00.heap.size w00 g g' x.2.2.1 w w':=by
 obtain ⟨ex,m',h',nx'⟩:=x
 obtain ⟨⟨q1,q3,q4⟩,q2⟩:=run_sound (nt:=nt) (B:=w00.heap.size) (w0:=w00) (K0:=K) hrk hcal hst hmix n _ _ _ _ _ _ _ _ hr _ nx (.code c d _ _ hok .nil) (fun b c hm=>by simp at hm) (Nat.le_refl _) hS.fresh
 obtain ⟨g',a',w',K',ms,fr0,r1,r2,r3,r4,r5,r5',r6,r7⟩:=q2 g w a b cs (fun q hq=>by rw [hb] at hq;cases hq) (fun id hm=>by simp at hm) hS.rt hS.size hS.inv
 rw [gcut_fresh hS.inv hS.fresh] at r6
 have hS':StM nt w00 Z g' h' w' m' a' nx':=by
  refine ⟨r6.inv,r3,r4,fun b hb=>?_,?_,q3⟩
  ·rcases r6.z b hb with h1 | h1
   ·exact hS.z b h1
   ·exact .inr h1
  ·rw [r5]
   exact Marks.append (Marks.mono (g:=g) (Nat.le_refl _) r6.le.z r6.le.heap hS.marks) hS.inv.size (fun d hd r e=>by
    obtain ⟨r',e',hz⟩:=Marks.mem hS.marks hd
    rw [e] at e'
    cases e'
    exact hS.inv.zlt r hz) r5'
 rcases hx with hx | hx
 ·cases hx
  obtain ⟨e1,rfl⟩:=r2
  exact ⟨g',a',w',K',r1,.inl ⟨rfl,e1⟩,hS',r6⟩
 ·cases hx
  obtain ⟨⟨r,e1⟩,rfl⟩:=r2
  exact ⟨g',a',w',K',r1,.inr ⟨rfl,r,e1⟩,hS',r6⟩
theorem StM.leave {f:Nat} {fn:Func} (hfn:P.funcs[f]? = some fn) {rs:List RV} (hres:okRes P fn.ntmps fn.results.toList rs=true) {x:Ex × Tm × Heap × Nat} {r:FV} (hr:resM rs x=some r) {nx:Nat} (hS:StM nt w00 Z g x.2.2.1 w x.2.1 a nx) {b:Frame} (hbf:b.fn=f) (hbk:b.kind=.normal) (hb:b.roundOf=none) (cs:List Frame) {K:List Item}
  (hK:K=[] ∨ ∃ l,K=.code .ret::l):EndM P f w00 Z r b cs a K w:=by
 obtain ⟨ex,m,h,nx2⟩:=x
 have hr':bnd (readRes m h rs) (fun vs=>frz h deep (result vs))=some r:=by
  cases ex<;>first | exact hr | (simp [resM] at hr)
 obtain ⟨out,o1,o2⟩:=bnd_some hr'
 have hs:Steps P (lone (b.atR a K) cs w) (lone { b.atR a K with mode:=.returning } cs w):=by
  rcases hK with rfl | ⟨l,rfl⟩
  ·exact .one (stepR_end hb)
  ·exact .one (stepR_ret hb)
 obtain ⟨g2,w2,l1,l2,l3,l4,l5,l6,l7,l8⟩:=leave_marks (P:=P) (ds:=[]) (u:=.returning) (by simp) (Nat.le_refl _) a.defers g w { b.atR a K with mode:=.returning } cs hS.marks rfl (by simp [Frame.atR]) hS.inv
 obtain ⟨y,z2,z3⟩:=results_sound l2 (hS.rt.map l3) hres o1
 refine ⟨y,w2,{ { b.atR a K with mode:=.returning } with defers:=[] },l2.below,?_,hs.trans l1,hbf,?_⟩
 ·exact ((frz_both (g2:=⟨fun _=>none,zone Z w00 w2⟩) l2 (fun b hb=>by
   rcases hS.z b (l5 b hb) with h1 | h1
   ·exact .inl h1
   ·exact .inr ⟨h1,l2.zlt b hb⟩) (fun i l b hl hbk=>by
   have:=l2.own i l b hl hbk
   exact .inr ⟨this.1,this.2.2⟩) deep).1 _ _ o2).val y z3
 ·subst hbf
  exact ⟨rfl,rfl,hbk,fn,hfn,z2⟩
theorem RT.skip (hm:RT g w m a) (hs:a.tmps.size=nt) {t0:Nat} (ht:t0 < nt) (h0:gt m t0=.undef) (x:Value):RT g w m (a.put (some t0) x):=by
 have h1:=hm.put hs (d:=some t0) (by simp [okDst,ht]) (.undef x)
 refine ⟨fun t=>?_,h1.gl⟩
 have h2:=h1.rt t
 by_cases e:t0=t
 ·subst e;rw [h0];exact .undef _
 ·have e2:gt (FI.put m (some t0) FV.undef) t=gt m t:=by simp [FI.put,gt,e]
  rw [e2] at h2;exact h2
theorem eval_put {t:Nat} (ht:t < a.tmps.size) (x:Value):(a.put (some t) x).eval (.tmp t)=x:=by simp [Act.eval,Act.put,Array.getD,ht]
omit [Sys] in
theorem ptr_eq {ib:Nat} {l:Loc} (hb:l.blk=some ib) {ad:Addr} (h:∃ b,l.blk=some b∧ad=⟨b,0 * l.es + 0,none⟩):ad=⟨ib,0,none⟩:=by
 obtain ⟨b,h1,rfl⟩:=h
 rw [hb] at h1;cases h1
 simp
theorem it_at {iid ib:Nat} {v:Value} (hr:R g w (.ptr iid 1 0 0) v) (hloc:∀ l,g.κ iid=some l→l.blk=some ib∧l.mp=true∧l.size=1):v=.pointer (some ⟨ib,0,none⟩):=by
 cases hr with | ptr _ _ _ _ l ad hk hs hh =>
 obtain ⟨h1,_,h3⟩:=hloc l hk
 rw [ptr_eq h1 (hh h3.symm)]
theorem end_mr (hrk:∀ f r ct,RkOf P cm rdO f r ct→Sys.rk f r ct) (hcal:CalOkP P cal) (hst:Stable (np cal) cm) (hmix:P.follows .mixedOrders=true) {n:Nat} {d:Mr} {f:Nat} {fn:Func} (hfn:P.funcs[f]? = some fn) (hres:okRes P fn.ntmps fn.results.toList d.res=true)
  {b:Frame} (hbf:b.fn=f) (hbk:b.kind=.normal) (hb:b.roundOf=none) (cs:List Frame) {rid7 b0:Nat} {nops:Array Oper} {t22 t23:Nat} {ty1 ty2:TypeId} {p1 p2:String} {f1 f2:Array Edge} {post:Code} {X:Code}
  (hnops:nops.toList=[⟨some t22,.next (.tmp d.it) false,ty1,p1,f1,none⟩,⟨some t23,.extract (.tmp t22) 0,ty2,p2,f2,none⟩])
  (hpost:okC P cm rdO fn.ntmps post d.post=true) (h22:t22 < fn.ntmps) (h23:t23 < fn.ntmps) (k22:t22 ∉ d.keep0) (k23:t23 ∉ d.keep0)
  {iid ib mb clock:Nat} {es:Array MapEntry} (hstm:Stamps es.toList clock) {r:FV} {L:Code} (hL:L=.seq (.region rid7 nops false) (.seq (.cond (.tmp t23) .skip (.exit b0)) X))
  {m:Tm} {h:Heap} {nx:Nat} (hr:chk (eqv (gt (keepOf m d.keep0) d.it) (.ptr iid 1 0 0)=true) (bnd (run cal n [.code d.post] (keepOf m d.keep0) h nx) (resM d.res))=some r) {a:Act} {seen:Array Nat} {last:Nat} (hS:StM fn.ntmps w00 Z g h w (keepOf m d.keep0) a nx)
  (hloc:∀ l,g.κ iid=some l→l.blk=some ib∧l.mp=true∧l.size=1) (hib:w.heap[ib]? = some (.mapIter (some mb) clock seen last)) (hlast:clock ≤ last) (hmb:w.heap[mb]? = some (.map es clock)) (hen:EnOk g w [] (leftOf es seen).toList) :
  EndM P f w00 Z r b cs a (.code L::.inLoop L::.inBlock b0::[.code post]) w:=by
 obtain ⟨hit2,hr⟩:=chk_some hr
 have hit:R g w (.ptr iid 1 0 0) (a.tmps.getD d.it undef):=by
  have h3:=hS.rt.rt d.it
  rw [eqv_eq hit2] at h3;exact h3
 have hl:(leftOf es seen).toList=[]:=by
  generalize (leftOf es seen).toList=l at hen
  cases hen;rfl
 have hav:=it_at hit hloc
 rcases next_step (P:=P) (ty:=ty1) hib hmb hstm.1 hlast with ⟨_,hnx⟩ | ⟨i,e,w2,hi,_⟩
 ·obtain ⟨a1,ha1⟩:∃ a1:Act,a1=(a.put (some t22) (.tuple #[.bool false])).put (some t23) (.bool false):=⟨_,rfl⟩
  have hst1:∀ K,Steps P (lone (b.atR a (.code (.region rid7 nops false)::K)) cs w) (lone (b.atR a1 K) cs w):=fun K=>by
   rw [ha1]
   refine two_ops (rid:=rid7) hnops rfl rfl (fun c=>by simp) (fun c=>by simp) (v1:=.tuple #[.bool false]) (v2:=.bool false) (w1:=w) ?_ ?_ b K cs
   ·refine exec_of_value (Instr.next (a.eval (.tmp d.it)) false ty1) rfl ?_
    rw [show a.eval (.tmp d.it)=a.tmps.getD d.it undef from rfl,hav]
    exact hnx
   ·refine exec_of_value (Instr.extract ((a.put (some t22) (.tuple #[.bool false])).eval (.tmp t22)) 0) rfl ?_
    rw [eval_put (by rw [hS.size];exact h22)]
    rfl
  have hs1:a1.tmps.size=fn.ntmps:=by rw [ha1];simp only [put_size];exact hS.size
  have hrt3:RT g w (keepOf m d.keep0) a1:=by
   rw [ha1]
   exact (hS.rt.skip hS.size h22 (gt_keepOf_not _ _ _ k22) _).skip (by rw [put_size];exact hS.size) h23 (gt_keepOf_not _ _ _ k23) _
  have hd1:a1.defers=a.defers:=by rw [ha1];simp only [put_defers]
  have hc1:a1.eval (.tmp t23)=.bool false:=by rw [ha1];exact eval_put (by rw [put_size,hS.size];exact h23) _
  have hS1:StM fn.ntmps w00 Z g h w (keepOf m d.keep0) a1 nx:=⟨hS.inv,hrt3,hs1,hS.z,by rw [hd1];exact hS.marks,hS.fresh⟩
  obtain ⟨x,k1,k2⟩:=bnd_some hr
  have hx:x.1=.fin ∨ x.1=.ret:=by
   obtain ⟨ex,m',h',nx'⟩:=x
   cases ex<;>simp [resM] at k2 ⊢
  obtain ⟨g',a',w',K',r1,r2,r3,_⟩:=StM.run hrk hcal hst hmix hpost k1 hS1 hb cs [] hx
  have hend:=r3.leave (P:=P) (f:=f) hfn hres k2 hbf hbk hb cs (K:=K') (by
   rcases r2 with ⟨_,h⟩ | ⟨_,h⟩
   ·exact .inl h
   ·exact .inr h)
  have hex:Go.exitTo b0 (.code X::.inLoop L::.inBlock b0::[.code post])=some [.code post]:=by simp [Go.exitTo]
  refine EndM.step (Steps.trans ?_ r1) hend
  rw [show (Item.code L)=.code (.seq (.region rid7 nops false) (.seq (.cond (.tmp t23) .skip (.exit b0)) X)) by rw [hL]]
  exact Steps.trans (.one stepR_seq) (Steps.trans (hst1 _) (Steps.trans (.one stepR_seq) (Steps.trans (.one (stepR_cond hc1)) (.one (stepR_exit hex)))))
 ·rw [hl] at hi;simp at hi
theorem loop_mr (hrk:∀ f r ct,RkOf P cm rdO f r ct→Sys.rk f r ct) (hcal:CalOkP P cal) (hst:Stable (np cal) cm) (hmix:P.follows .mixedOrders=true) {n:Nat} {d:Mr} {f:Nat} {fn:Func} (hfn:P.funcs[f]? = some fn) (hres:okRes P fn.ntmps fn.results.toList d.res=true)
  {b:Frame} (hbf:b.fn=f) (hbk:b.kind=.normal) (hb:b.roundOf=none) (cs:List Frame) {rid7 rid8 b0 b1:Nat} {nops eops:Array Oper} {t22 t23:Nat} {ty1 ty2 ty3:TypeId} {p1 p2 p3:String} {f1 f2 f3:Array Edge} {body post:Code} {rest8:List Oper}
  (hnops:nops.toList=[⟨some t22,.next (.tmp d.it) false,ty1,p1,f1,none⟩,⟨some t23,.extract (.tmp t22) 0,ty2,p2,f2,none⟩]) (heops:eops.toList=⟨some d.d,.entry (.tmp d.it),ty3,p3,f3,none⟩::rest8)
  (hbody:okC P cm rdO fn.ntmps body d.body=true) (hpost:okC P cm rdO fn.ntmps post d.post=true) (hops:okGs P eops fn.ntmps rest8 d.ops=true) (h22:t22 < fn.ntmps) (h23:t23 < fn.ntmps) (hd:d.d < fn.ntmps) (k22:t22 ∉ d.keep0) (k23:t23 ∉ d.keep0)
  {iid ib mb clock:Nat} {es:Array MapEntry} (hstm:Stamps es.toList clock) (hB:w00.heap.size ≤ ib) {r:FV} {L:Code} (hL:L=.seq (.region rid7 nops false) (.seq (.cond (.tmp t23) .skip (.exit b0)) (.block b1 (.seq (.region rid8 eops false) body)))) :
  ∀ (c:Nat) (left:List (FV × FV)) (m:Tm) (h:Heap) (nx:Nat),runAll (rops (np cal)) (run cal n) d iid c left m h nx=some r→∀ (g:Gh) (w:World) (a:Act) (seen:Array Nat) (last:Nat),StM fn.ntmps w00 Z g h w (keepOf m d.keep0) a nx →
   (∀ l,g.κ iid=some l→l.blk=some ib∧l.mp=true∧l.size=1)→g.Z ib→g.Z mb→w.heap[ib]? = some (.mapIter (some mb) clock seen last)→clock ≤ last→w.heap[mb]? = some (.map es clock)→EnOk g w left (leftOf es seen).toList →
   EndM P f w00 Z r b cs a (.code L::.inLoop L::.inBlock b0::[.code post]) w:=by
 intro c
 induction c with
 |zero =>
  intro left m h nx hr g w a seen last hS hloc hzi hzm hib hlast hmb hen
  cases left with
  |cons e es=>simp [runAll] at hr
  |nil =>
   simp only [runAll] at hr
   exact end_mr hrk hcal hst hmix hfn hres hbf hbk hb cs hnops hpost h22 h23 k22 k23 hstm hL hr hS hloc hib hlast hmb hen
 |succ c ih =>
  intro left m h nx hr g w a seen last hS hloc hzi hzm hib hlast hmb hen
  cases left with
  |nil =>
   simp only [runAll] at hr
   exact end_mr hrk hcal hst hmix hfn hres hbf hbk hb cs hnops hpost h22 h23 k22 k23 hstm hL hr hS hloc hib hlast hmb hen
  |cons e0 es0 =>
   simp only [runAll] at hr
   obtain ⟨hit2,hr⟩:=chk_some hr
   have hit:R g w (.ptr iid 1 0 0) (a.tmps.getD d.it undef):=by
    have h3:=hS.rt.rt d.it
    rw [eqv_eq hit2] at h3;exact h3
   have hav:=it_at hit hloc
   rcases next_step (P:=P) (ty:=ty1) hib hmb hstm.1 hlast with ⟨hl,_⟩ | ⟨i,e,w2,hi,hw,hib2,hnx⟩
   ·rw [hl] at hen;cases hen
   ·obtain ⟨k,v,hkv,hRk,hRv⟩:=hen.get hi
    have hpick:=same_some hr _ (List.mem_map_of_mem (picks_get _ _ _ hkv))
    obtain ⟨⟨m2,h2,nx2⟩,hIt,hAll⟩:=bnd_some hpick
    have hmb2:w2.heap[mb]? = some (.map es clock):=by
     rw [hw.oth mb (fun e=>by subst e;rw [hib] at hmb;cases hmb)];exact hmb
    have he:e ∈ es.toList:=(List.mem_filter.1 (by
     have:=List.mem_of_getElem? hi
     unfold leftOf at this
     rw [Array.toList_filter] at this
     exact this)).1
    unfold runIt at hIt
    obtain ⟨⟨m1,h1,nx1⟩,k1,hIt⟩:=bnd_some hIt
    obtain ⟨⟨ex,y⟩,k2,hIt⟩:=bnd_some hIt
    have hex:ex=.fin∧y=(m2,h2,nx2):=by
     cases ex<;>simp at hIt
     exact ⟨rfl,hIt⟩
    obtain ⟨rfl,rfl⟩:=hex
    have hI2:=hS.inv.reput hw hB
    have hrt2:=hS.rt.reput hw
    obtain ⟨a1,ha1⟩:∃ a1:Act,a1=(a.put (some t22) (.tuple #[.bool true,e.key,e.val])).put (some t23) (.bool true):=⟨_,rfl⟩
    have hst1:∀ K,Steps P (lone (b.atR a (.code (.region rid7 nops false)::K)) cs w) (lone (b.atR a1 K) cs w2):=fun K=>by
     rw [ha1]
     refine two_ops (rid:=rid7) hnops rfl rfl (fun c=>by simp) (fun c=>by simp) (v1:=.tuple #[.bool true,e.key,e.val]) (v2:=.bool true) (w1:=w2) ?_ ?_ b K cs
     ·refine exec_of_value (Instr.next (a.eval (.tmp d.it)) false ty1) rfl ?_
      rw [show a.eval (.tmp d.it)=a.tmps.getD d.it undef from rfl,hav]
      exact hnx
     ·refine exec_of_value (Instr.extract ((a.put (some t22) (.tuple #[.bool true,e.key,e.val])).eval (.tmp t22)) 0) rfl ?_
      rw [eval_put (by rw [hS.size];exact h22)]
      rfl
    have hs1:a1.tmps.size=fn.ntmps:=by rw [ha1];simp only [put_size];exact hS.size
    have hrt3:RT g w2 (keepOf m d.keep0) a1:=by
     rw [ha1]
     exact (hrt2.skip hS.size h22 (gt_keepOf_not _ _ _ k22) _).skip (by rw [put_size];exact hS.size) h23 (gt_keepOf_not _ _ _ k23) _
    have hd1:a1.defers=a.defers:=by rw [ha1];simp only [put_defers]
    have hit1:a1.eval (.tmp d.it)=.pointer (some ⟨ib,0,none⟩):=by
     have h3:=hrt3.rt d.it
     rw [eqv_eq hit2] at h3
     exact it_at h3 hloc
    have hc1:a1.eval (.tmp t23)=.bool true:=by rw [ha1];exact eval_put (by rw [put_size,hS.size];exact h23) _
    have hf1:Fresh h (nx + (d.ops.length + 1)):=fun i hi=>hS.fresh i (by omega)
    have hwp:wpOpsIn (fb b.roundOf) 0 P eops (RegPost w00.heap.size w00 fn.ntmps a1 g h w2 (fun _=>True) m1 h1) (List.range eops.size) a1 w2:=by
     have hlen:eops.size=d.ops.length + 1:=by
      have h1:eops.toList.length=rest8.length + 1:=by rw [heops];rfl
      have h2:=(okGs_get _ _ hops).1
      simp at h1
      omega
     rw [List.range_eq_range',hlen,show List.range' 0 (d.ops.length + 1)=0::List.range' 1 d.ops.length from rfl,wpOpsIn_cons]
     unfold wpOpIn
     have h0:eops[0]? = some ⟨some d.d,.entry (.tmp d.it),ty3,p3,f3,none⟩:=by
      rw [← Array.getElem?_toList,heops];rfl
     rw [h0]
     have hw1:∀ (o:Oper) (hg:o.guard=none) (p:Nat→Option Bool),Region.wanted o p=true:=fun o hg p=>by simp [Region.wanted,hg]
     simp only
     rw [hw1 _ rfl,if_pos rfl]
     refine ⟨fun _ _=>trivial,?_⟩
     rw [Oper.semAt_eq _ _ _ (by intro c;simp)]
     rw [exec_of_value (Instr.entry (a1.eval (.tmp d.it))) rfl (z:=.tuple #[e.key,e.val]) (w':=w2) (by rw [hit1];exact entry_step hib2 hmb2 he hstm.2),Oper.uponIn_value]
     refine rops_sound hcal.np d.ops 1 (nx + 1) _ h (nx + (d.ops.length + 1)) m1 h1 nx1 g w2 _ (by rw [heops];exact hops) k1 ?_ (by rw [put_size];exact hs1) (by rw [put_defers]) (.refl hI2) (fun j hj _=>hS.fresh j (by omega)) (by omega) hf1 (fun _ _ h=>⟨h,rfl⟩) (fun _ _ _=>trivial) (fun _ _ _=>trivial)
     exact hrt3.put hs1 (by simp [okDst,hd]) (.tup _ _ (.cons _ _ _ _ (hRk.reput hw) (.cons _ _ _ _ (hRv.reput hw) .nil)))
    obtain ⟨ee,a2,w3,⟨rfl,g3,q1,q2,q3,q4,_⟩,harr⟩:=wp_opsIn _ a1 w2 hwp b (.code body::.inBlock b1::.inLoop L::.inBlock b0::[.code post]) cs rfl trivial (room_fb _ _)
    obtain ⟨_,hnew⟩:=rops_new hcal.np d.ops (nx + 1) _ h (nx + (d.ops.length + 1)) m1 h1 nx1 (fun j hj _=>hS.fresh j (by omega)) (by omega) hf1 k1
    have hle:nx + (d.ops.length + 1) ≤ nx1:=(rops_new hcal.np d.ops (nx + 1) _ h (nx + (d.ops.length + 1)) m1 h1 nx1 (fun j hj _=>hS.fresh j (by omega)) (by omega) hf1 k1).1
    have hS3:StM fn.ntmps w00 Z g3 h1 w3 (keepOf m1 d.keep) a2 nx1:=by
     refine ⟨q4.inv,q1.keep _,q2,fun bb hb=>?_,?_,fun i hi=>hnew i (hS.fresh i (by omega)) (by omega) (.inr hi)⟩
     ·rcases q4.z bb hb with h | h
      ·exact hS.z bb h
      ·exact .inr h
     ·rw [q3,hd1]
      exact Marks.mono (g:=g) (Nat.le_refl _) q4.le.z q4.le.heap (hS.marks.reput hw)
    obtain ⟨g4,a4,w4,K4,r1,r2,r3,r4⟩:=StM.run hrk hcal hst hmix hbody k2 hS3 hb cs (.inBlock b1::.inLoop L::.inBlock b0::[.code post]) (.inl rfl)
    have hK4:K4=.inBlock b1::.inLoop L::.inBlock b0::[.code post]:=by
     rcases r2 with ⟨_,h⟩ | ⟨h,_⟩
     ·exact h
     ·cases h
    subst hK4
    have hz2:g4.Z ib:=r4.le.z ib (q4.le.z ib hzi)
    have hzm2:g4.Z mb:=r4.le.z mb (q4.le.z mb hzm)
    have hib4:w4.heap[ib]? = some (.mapIter (some mb) clock (seen.push e.born) clock):=by
     rw [r4.le.heap ib (q4.le.z ib hzi),q4.le.heap ib hzi];exact hib2
    have hmb4:w4.heap[mb]? = some (.map es clock):=by
     rw [r4.le.heap mb (q4.le.z mb hzm),q4.le.heap mb hzm];exact hmb2
    have hle4:GLe g g4 w2 w4:=q4.le.trans r4.le
    have hloc4:∀ l,g4.κ iid=some l→l.blk=some ib∧l.mp=true∧l.size=1:=by
     intro l hl
     obtain ⟨l0,hl0⟩:∃ l0,g.κ iid=some l0:=by
      generalize a.tmps.getD d.it undef=q at hit
      cases hit with | ptr _ _ _ _ l ad hk hs hh=>exact ⟨l,hk⟩
     obtain ⟨l',h1,_,_,h4⟩:=hle4.k iid l0 hl0
     rw [hl] at h1;cases h1
     rw [h4 (.inr (hloc l0 hl0).2.1)]
     exact hloc l0 hl0
    have hen4:EnOk g4 w4 (((e0::es0).eraseIdx i)) (leftOf es (seen.push e.born)).toList:=by
     rw [left_push hstm.2 hi]
     exact ((hen.erase i).reput hw).mono hle4
    have hend:=ih _ m2 h2 nx2 hAll g4 w4 a4 (seen.push e.born) clock ⟨r3.inv,r3.rt.keep _,r3.size,r3.z,r3.marks,r3.fresh⟩ hloc4 hz2 hzm2 hib4 (Nat.le_refl _) hmb4 hen4
    refine EndM.step ?_ hend
    have s1:Steps P (lone (b.atR a (.code L::.inLoop L::.inBlock b0::[.code post])) cs w) (lone (b.atR a1 (.code (.region rid8 eops false)::.code body::.inBlock b1::.inLoop L::.inBlock b0::[.code post])) cs w2):=by
     rw [show (Item.code L)=.code (.seq (.region rid7 nops false) (.seq (.cond (.tmp t23) .skip (.exit b0)) (.block b1 (.seq (.region rid8 eops false) body)))) by rw [hL]]
     exact Steps.trans (.one stepR_seq) (Steps.trans (hst1 _) (Steps.trans (.one stepR_seq) (Steps.trans (.one (stepR_cond hc1)) (Steps.trans (.one stepR_skip) (Steps.trans (.one stepR_block) (.one stepR_seq))))))
    exact Steps.trans s1 (Steps.trans (.one stepR_region) (Steps.trans (StepsIn.steps harr) (Steps.trans r1 (Steps.trans (.one stepR_inBlock) (.one stepR_inLoop)))))
theorem freeze_map (hI:Inv B w0 g h w) {id:Nat} {en:List (FV × FV)} (hg:hget h id=some (.mp en)) {mb:Nat} {l:Loc} (hk:g.κ id=some l) (hb:l.blk=some mb) :
  Inv B w0 ⟨g.κ,fun b=>g.Z b ∨ b=mb⟩ (hset h id (.fmp en)) w∧GLe g ⟨g.κ,fun b=>g.Z b ∨ b=mb⟩ w w:=by
 have hle:GLe g ⟨g.κ,fun b=>g.Z b ∨ b=mb⟩ w w:=⟨fun b h=>.inl h,fun _ _=>rfl,KLe.refl _⟩
 refine ⟨⟨fun j l hl=>?_,fun j o l' ho hl=>?_,hI.inj,fun j l' b hl hb'=>?_,fun b hb'=>?_,hI.below,hI.size⟩,hle⟩
 ·rw [hget_hset hg]
  split
  ·exact ⟨_,rfl⟩
  ·exact hI.dom j l hl
 ·rw [hget_hset hg] at ho
  split at ho
  ·rename_i e
   cases ho
   subst e
   refine ⟨MapOk.mono hle (fun _ _=>rfl) (hI.obj _ _ l' hg hl),fun b hb'=>.inr ?_⟩
   rw [hk] at hl;cases hl
   rw [hb] at hb';cases hb';rfl
  ·exact (hI.obj j o l' ho hl).mono hle fun _ _=>rfl
 ·obtain ⟨h1,h2,h3⟩:=hI.own j l' b hl hb'
  refine ⟨h1,fun hf hz=>?_,h3⟩
  rw [hget_hset hg] at hf
  split at hf
  ·cases hf
  ·rename_i e
   rcases hz with hz | hz
   ·exact h2 hf hz
   ·subst hz;exact e (hI.inj j id l' l b hl hk hb' hb)
 ·rcases hb' with hb' | rfl
  ·exact hI.zlt b hb'
  ·exact (hI.own id l b hk hb).2.2
theorem add_mit (hI:Inv B w0 g h w) {id:Nat} (hn:hget h id=none) {im:Option Nat} {is ik:Nat} {isn:Array Nat} {o:Go.Obj} (ho:o=.mapIter im is isn ik) :
  Inv B w0 ⟨upd g.κ id ⟨some w.heap.size,1,0,1,true,none⟩,fun b=>g.Z b ∨ b=w.heap.size⟩ ((id,.mit)::h) (w.alloc o)∧GLe g ⟨upd g.κ id ⟨some w.heap.size,1,0,1,true,none⟩,fun b=>g.Z b ∨ b=w.heap.size⟩ w (w.alloc o):=by
 have hk0:=kNone hI hn
 obtain ⟨h1,h2⟩:=hI.still o
 have hk:∀ i l,upd g.κ id ⟨some w.heap.size,1,0,1,true,none⟩ i=some l→(i=id∧l=⟨some w.heap.size,1,0,1,true,none⟩) ∨ (i ≠ id∧g.κ i=some l):=fun i l hl=>by
  simp only [upd] at hl
  split at hl
  ·rename_i e;simp only [Option.some.injEq] at hl;exact .inl ⟨e,hl.symm⟩
  ·rename_i e;exact .inr ⟨e,hl⟩
 have hle2:GLe ⟨g.κ,fun b=>g.Z b ∨ b=w.heap.size⟩ ⟨upd g.κ id ⟨some w.heap.size,1,0,1,true,none⟩,fun b=>g.Z b ∨ b=w.heap.size⟩ (w.alloc o) (w.alloc o):=⟨fun _ h=>h,fun _ _=>rfl,fun i l hl=>by
  refine ⟨l,?_,Nat.le_refl _,rfl,fun _=>rfl⟩
  simp only [upd]
  rw [if_neg (fun e=>by subst e;simp only at hl;rw [hk0] at hl;cases hl)]
  exact hl⟩
 have hnew:(w.alloc o).heap[w.heap.size]? = some (.mapIter im is isn ik):=by rw [alloc_heap];rw [ho]
 have ownlt:∀ i l b,g.κ i=some l→l.blk=some b→b < w.heap.size:=fun i l b h1 h2=>(hI.own i l b h1 h2).2.2
 refine ⟨⟨fun i l hl=>?_,fun i q l hq hl=>?_,fun i j li lj b hi hj hbi hbj=>?_,fun i l b hl hb=>?_,h1.zlt,h1.below,h1.size⟩,h2.trans hle2⟩
 ·rw [hget_cons]
  rcases hk i l hl with ⟨rfl,_⟩ | ⟨e,hl⟩
  ·exact ⟨.mit,by simp⟩
  ·rw [if_neg e];exact hI.dom i l hl
 ·rw [hget_cons] at hq
  rcases hk i l hl with ⟨rfl,rfl⟩ | ⟨e,hl⟩
  ·rw [if_pos rfl] at hq;cases hq
   exact ⟨rfl,rfl,rfl,_,_,_,_,_,rfl,.inr rfl,hnew⟩
  ·rw [if_neg e] at hq
   exact (h1.obj i q l hq hl).mono hle2 fun _ _=>rfl
 ·rcases hk i li hi with ⟨e1,e2⟩ | ⟨ei,hi2⟩<;>rcases hk j lj hj with ⟨e3,e4⟩ | ⟨ej,hj2⟩
  ·rw [e1,e3]
  ·subst e2;simp only [Option.some.injEq] at hbi;subst hbi
   have:=ownlt j lj _ hj2 hbj;omega
  ·subst e4;simp only [Option.some.injEq] at hbj;subst hbj
   have:=ownlt i li _ hi2 hbi;omega
  ·exact hI.inj i j li lj b hi2 hj2 hbi hbj
 ·rcases hk i l hl with ⟨rfl,rfl⟩ | ⟨e,hl⟩
  ·simp only [Option.some.injEq] at hb;subst hb
   refine ⟨hI.size,fun hf=>?_,by simp⟩
   rw [hget_cons,if_pos rfl] at hf;cases hf
  ·have:=h1.own i l b hl hb
   rw [hget_cons,if_neg e]
   exact this
theorem pre_mr (hrk:∀ f r ct,RkOf P cm rdO f r ct→Sys.rk f r ct) (hcal:CalOkP P cal) (hst:Stable (np cal) cm) (hmix:P.follows .mixedOrders=true) {n:Nat} {d:Mr} {b:Frame} (hb:b.roundOf=none) (cs:List Frame):∀ (ps:List C) (c:Code),okMrC P cm rdO nt d ps c=true →
  ∀ (m:Tm) (h:Heap) (nx:Nat) (x:Ex × Tm × Heap × Nat),runPre (run cal n) ps m h nx=some x→(x.1=.fin ∨ x.1=.ret)→∀ (g:Gh) (w:World) (a:Act),StM nt w00 Z g h w m a nx →
  ∃ g' a' w' K',Steps P (lone (b.atR a [.code c]) cs w) (lone (b.atR a' K') cs w')∧StM nt w00 Z g' x.2.2.1 w' x.2.1 a' x.2.2.2∧((x.1=.fin∧∃ c',K'=[.code c']∧okMrC P cm rdO nt d [] c'=true) ∨ (x.1=.ret∧∃ l,K'=.code .ret::l)):=by
 intro ps
 induction ps with
 |nil =>
  intro c hok m h nx x hr hx g w a hS
  simp only [runPre,Option.some.injEq] at hr
  subst hr
  exact ⟨g,a,w,_,.refl _ _,hS,.inl ⟨rfl,c,rfl,hok⟩⟩
 |cons p ps ih =>
  intro c hok m h nx x hr hx g w a hS
  cases c<;>simp only [okMrC,Bool.false_eq_true] at hok
  rename_i c1 c2
  simp only [Bool.and_eq_true] at hok
  simp only [runPre] at hr
  obtain ⟨⟨ey,m1,h1,nx1⟩,k1,hr⟩:=bnd_some hr
  have two:ey=.fin∧runPre (run cal n) ps m1 h1 nx1=some x ∨ ey=.ret∧x=(.ret,m1,h1,nx1):=by
   cases ey with
   |fin=>exact .inl ⟨rfl,hr⟩
   |ret=>simp only [Option.some.injEq] at hr;exact .inr ⟨rfl,hr.symm⟩
   |xt e=>simp only [Option.some.injEq] at hr;subst hr;simp at hx
   |pan e=>simp only [Option.some.injEq] at hr;subst hr;simp at hx
  rcases two with ⟨rfl,hr2⟩ | ⟨rfl,rfl⟩
  ·obtain ⟨g',a',w',K',r1,r2,r3,_⟩:=StM.run hrk hcal hst hmix hok.1 k1 hS hb cs [.code c2] (.inl rfl)
   have hK:K'=[.code c2]:=by
    rcases r2 with ⟨_,h⟩ | ⟨h,_⟩
    ·exact h
    ·cases h
   subst hK
   obtain ⟨g2,a2,w2,K2,s1,s2,s3⟩:=ih c2 hok.2 _ _ _ _ hr2 hx g' w' a' r3
   exact ⟨g2,a2,w2,K2,Steps.trans (.one stepR_seq) (Steps.trans r1 s1),s2,s3⟩
  ·obtain ⟨g',a',w',K',r1,r2,r3,_⟩:=StM.run hrk hcal hst hmix hok.1 k1 hS hb cs [.code c2] (.inr rfl)
   refine ⟨g',a',w',K',Steps.trans (.one stepR_seq) r1,r3,.inr ⟨rfl,?_⟩⟩
   rcases r2 with ⟨h,_⟩ | ⟨_,h⟩
   ·cases h
   ·exact h
theorem enter_mr (hrk:∀ f r ct,RkOf P cm rdO f r ct→Sys.rk f r ct) (hcal:CalOkP P cal) (hst:Stable (np cal) cm) (hmix:P.follows .mixedOrders=true) {n f:Nat} {d:Mr} (hok:okMr P cm rdO f d=true) {args:List FV} {nx nx':Nat} {v:FV}
  (he:enterM (rops (np cal)) (run cal n) d args h nx=some (v,h',nx')):entered P f=true∧h'=h∧nx'=nx∧pures args=true∧IsoCall P f args v:=by
 unfold okMr at hok
 split at hok
 ·rename_i fn hfn
  split at hok
  ·rename_i c hc
   simp only [Bool.and_eq_true,decide_eq_true_eq,Bool.not_eq_true'] at hok
   obtain ⟨⟨⟨k1,k2⟩,k3⟩,k4⟩:=hok
   unfold enterM at he
   obtain ⟨v',he2,hv⟩:=bnd_some he
   clear he
   have he:=he2
   clear he2
   simp only [Option.some.injEq,Prod.mk.injEq] at hv
   obtain ⟨rfl,rfl,rfl⟩:=hv
   unfold mrV at he
   obtain ⟨⟨hnp,hp⟩,he⟩:=chk_some he
   obtain ⟨x,x1,he⟩:=bnd_some he
   obtain ⟨ex,m1,h1,nx1⟩:=x
   have hx:ex=.fin ∨ ex=.ret:=by cases ex<;>simp at he ⊢
   have two:(ex=.ret∧resM d.res (ex,m1,h1,nx1)=some v') ∨ (ex=.fin∧∃ id en,gt m1 d.mp=.map id∧hget h1 id=some (.mp en) ∧
     runAll (rops (np cal)) (run cal n) d nx1 en.length en (put m1 (some d.it) (.ptr nx1 1 0 0)) ((nx1,.mit)::hset h1 id (.fmp en)) (nx1 + 1)=some v'):=by
    rcases hx with rfl | rfl
    ·right
     simp only at he
     refine ⟨rfl,?_⟩
     split at he
     ·rename_i id hid
      split at he
      ·rename_i en hen
       exact ⟨id,en,hid,hen,he⟩
      ·simp at he
     ·simp at he
    ·left
     exact ⟨rfl,he⟩
   refine ⟨by simp [entered,hfn,hc,k4],rfl,rfl,hp,fun Z w xs hz hgl hxs cs=>?_⟩
   let b:Frame:={ (default:Frame) with fn:=f,kind:=.normal,roundOf:=none }
   have hlen:=hxs.length
   have henter:Frame.enter P f xs.toArray .normal=b.atR ⟨xs.toArray ++ Array.replicate (fn.ntmps - xs.length) undef,[]⟩ [.code c]:=by
    simp [Frame.enter,Frame.atR,hfn,hc,b]
   have hS0:StM fn.ntmps w Z ⟨fun _=>none,Z⟩ [] w (params 0 args) ⟨xs.toArray ++ Array.replicate (fn.ntmps - xs.length) undef,[]⟩ 0 :=
    ⟨Inv.scope w Z hz,RT_params hxs hgl _,by simp;omega,fun b hb=>.inl hb,trivial,fun i _=>rfl⟩
   suffices hE:EndM P f w Z v' b cs ⟨xs.toArray ++ Array.replicate (fn.ntmps - xs.length) undef,[]⟩ [.code c] w by
    obtain ⟨y,w',fr,e1,e2,e3,e4,e5⟩:=hE
    refine ⟨.returned y,w',fr,⟨y,rfl,e1,e2⟩,?_,e4,e5⟩
    rw [henter];exact e3
   obtain ⟨g1,a1,w1,K1,s1,hS1,s3⟩:=pre_mr hrk hcal hst hmix (b:=b) rfl cs d.pre c k1 _ _ _ _ x1 hx _ w _ hS0
   refine EndM.step s1 ?_
   rcases two with ⟨rfl,hres⟩ | ⟨rfl,id,en,hid,hen,hall⟩
   ·exact StM.leave (x:=(.ret,m1,h1,nx1)) hfn k3 hres hS1 rfl rfl rfl cs (by
     rcases s3 with ⟨h,_⟩ | ⟨_,h⟩
     ·cases h
     ·exact .inr h)
   ·rcases s3 with ⟨_,c',rfl,hok2⟩ | ⟨h,_⟩
    ·simp only at hS1
     simp only [okMrC] at hok2
     unfold okWalk at hok2
     split at hok2
     ·rename_i r6 rops b0 r7 nops t23 b0' b1 r8 eops body post
      simp only [Bool.and_eq_true,beq_iff_eq] at hok2
      obtain ⟨⟨⟨⟨⟨rfl,hbody⟩,hpost⟩,hro⟩,hno⟩,heo⟩:=hok2
      split at hro
      case h_2=>simp at hro
      rename_i t20 x6 ty6 p6 f6 t21 mt t20' ty7 p7 f7 hrops
      simp only [Bool.and_eq_true,beq_iff_eq,decide_eq_true_eq,Bool.not_eq_true'] at hro
      obtain ⟨⟨⟨⟨⟨⟨hx6,rfl⟩,rfl⟩,hk20⟩,h20⟩,h21⟩,hmt⟩:=hro
      split at hno
      case h_2=>simp at hno
      rename_i t22 t21' ty8 p8 f8 t23' t22' ty9 p9 f9 hnops
      simp only [Bool.and_eq_true,beq_iff_eq,decide_eq_true_eq,Bool.not_eq_true'] at hno
      obtain ⟨⟨⟨⟨⟨⟨rfl,rfl⟩,rfl⟩,hk22⟩,hk23⟩,h22⟩,h23⟩:=hno
      split at heo
      case h_2=>simp at heo
      rename_i t24 t21'' ty10 p10 f10 rest8 heops
      simp only [Bool.and_eq_true,beq_iff_eq,decide_eq_true_eq] at heo
      obtain ⟨⟨⟨rfl,h24⟩,rfl⟩,hops⟩:=heo
      obtain ⟨dsc,hdsc,hp'⟩:=desc_of hmt
      cases dsc<;>simp at hp'
      rename_i kd ed
      have hmp:=R_okX hS1.rt hx6
      rw [show ev m1 (.t d.mp)=gt m1 d.mp from rfl,hid] at hmp
      obtain ⟨mb,l,es,clock,em,hκ,hbl,hlm,hmb,hen2,hstm⟩:=map_at hS1.inv hmp hen
      obtain ⟨hI2,hle2⟩:=freeze_map hS1.inv hen hκ hbl
      have hfr:hget (hset h1 id (.fmp en)) nx1=none:=by
       rw [hget_hset hen,if_neg]
       ·exact hS1.fresh nx1 (Nat.le_refl _)
       ·intro e;subst e
        rw [hS1.fresh _ (Nat.le_refl _)] at hen;cases hen
      obtain ⟨hI3,hle3⟩:=add_mit hI2 hfr (o:=.mapIter (some mb) clock #[] clock) rfl
      have hle:=hle2.trans hle3
      obtain ⟨a2,ha2⟩:∃ a2:Act,a2=(a1.put (some t20) (.map (some mb))).put (some d.it) (.pointer (some ⟨w1.heap.size,0,none⟩)):=⟨_,rfl⟩
      have hst6:∀ K,Steps P (lone (b.atR a1 (.code (.region r6 rops false)::K)) cs w1) (lone (b.atR a2 K) cs (w1.alloc (.mapIter (some mb) clock #[] clock))):=fun K=>by
       rw [ha2]
       refine two_ops (rid:=r6) hrops rfl rfl (fun c=>by simp) (fun c=>by simp) (v1:=.map (some mb)) (v2:=.pointer (some ⟨w1.heap.size,0,none⟩)) (w1:=w1) ?_ ?_ b K cs
       ·rw [← em]
        exact exec_of_value (pure (a1.eval x6)) rfl rfl
       ·refine exec_of_value (Instr.range mt ((a1.put (some t20) (.map (some mb))).eval (.tmp t20))) rfl ?_
        rw [eval_put (by rw [hS1.size];exact h20)]
        exact run_range_map w1 mt kd ed mb es clock hdsc hmb
      have hsz2:a2.tmps.size=fn.ntmps:=by rw [ha2];simp only [put_size];exact hS1.size
      have hrt:RT ⟨upd g1.κ nx1 ⟨some w1.heap.size,1,0,1,true,none⟩,fun b=>(g1.Z b ∨ b=mb) ∨ b=w1.heap.size⟩ (w1.alloc (.mapIter (some mb) clock #[] clock)) (keepOf (put m1 (some d.it) (.ptr nx1 1 0 0)) d.keep0) a2:=by
       have q1:=((hS1.rt.mono hle).put hS1.size (d:=some t20) (by simp [okDst,h20]) (.undef (.map (some mb))))
       have q2:=q1.put (by rw [put_size];exact hS1.size) (d:=some d.it) (show decide (d.it < fn.ntmps)=true from decide_eq_true h21) (v:=.ptr nx1 1 0 0) (x:=.pointer (some ⟨w1.heap.size,0,none⟩)) (.ptr nx1 1 0 0 ⟨some w1.heap.size,1,0,1,true,none⟩ _ (by simp [upd]) (Nat.le_refl _) fun _=>⟨_,rfl,rfl⟩)
       rw [← ha2] at q2
       refine ⟨fun t=>?_,q2.gl⟩
       by_cases ht:t ∈ d.keep0
       ·rw [gt_keepOf _ _ _ ht]
        have hne:t20 ≠ t:=fun e=>by subst e;simp at hk20;exact hk20 ht
        have q3:=q2.rt t
        have e1:gt (put (put m1 (some t20) .undef) (some d.it) (.ptr nx1 1 0 0)) t=gt (put m1 (some d.it) (.ptr nx1 1 0 0)) t:=by
         simp only [put,gt]
         by_cases e:d.it=t
         ·simp [e]
         ·simp [e,hne]
        rw [e1] at q3;exact q3
       ·rw [gt_keepOf_not _ _ _ ht];exact .undef _
      have hS2:StM fn.ntmps w Z ⟨upd g1.κ nx1 ⟨some w1.heap.size,1,0,1,true,none⟩,fun b=>(g1.Z b ∨ b=mb) ∨ b=w1.heap.size⟩ ((nx1,.mit)::hset h1 id (.fmp en)) (w1.alloc (.mapIter (some mb) clock #[] clock)) (keepOf (put m1 (some d.it) (.ptr nx1 1 0 0)) d.keep0) a2 (nx1 + 1):=by
       refine ⟨hI3,hrt,hsz2,fun bb hbb=>?_,?_,fun i hi=>?_⟩
       ·rcases hbb with (h | rfl) | rfl
        ·exact hS1.z bb h
        ·exact .inr (hS1.inv.own id l _ hκ hbl).1
        ·exact .inr hS1.inv.size
       ·have:a2.defers=a1.defers:=by rw [ha2];simp only [put_defers]
        rw [this]
        exact Marks.mono (g:=g1) (Nat.le_refl _) hle.z hle.heap hS1.marks
       ·rw [hget_cons,if_neg (by omega),hget_hset hen,if_neg]
        ·exact hS1.fresh i (by omega)
        ·intro e;subst e
         rw [hS1.fresh _ (by omega)] at hen;cases hen
      have hmblt:mb < w1.heap.size:=(hS1.inv.own id l mb hκ hbl).2.2
      have hend:=loop_mr hrk hcal hst hmix hfn k3 (b:=b) rfl rfl rfl cs hnops heops hbody hpost hops h22 h23 h24 (by simpa using hk22) (by simpa using hk23) (ib:=w1.heap.size) (mb:=mb) hstm hS1.inv.size (b0:=b0) (b1:=b1) (rid7:=r7) (rid8:=r8) rfl
       en.length en _ _ _ hall _ _ a2 #[] clock hS2 (fun l' hl'=>by
        simp only [upd,if_true,Option.some.injEq] at hl'
        subst hl'
        exact ⟨rfl,rfl,rfl⟩) (.inr rfl) (.inl (.inr rfl)) (by rw [alloc_heap]) (Nat.le_refl _) (by rw [Below.heap_alloc w1 _ mb hmblt];exact hmb) (by
        have:(leftOf es #[]).toList=es.toList:=by
         unfold leftOf
         rw [Array.toList_filter,List.filter_eq_self]
         intro x _;simp
        rw [this];exact hen2.mono hle)
      refine EndM.step ?_ hend
      exact Steps.trans (.one stepR_seq) (Steps.trans (.one stepR_seq) (Steps.trans (hst6 _) (Steps.trans (.one stepR_block) (.one stepR_loop))))
     ·simp at hok2
    ·cases h
  ·simp at hok
 ·simp at hok
end
end Go.FI
