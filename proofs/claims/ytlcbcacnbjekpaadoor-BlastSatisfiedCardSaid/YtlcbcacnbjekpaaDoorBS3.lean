/- Parts of the proof, one behind the other. -/
import Derived.Test.YtlcbcacnbjekpaaDoorBS2
import Derived.Laws.IdiomRangeMap
import Derived.KernelRfl
import Derived.Lib.Join
set_option linter.all false
namespace Go.FI
open Go.RowKit
variable [Sys]
section
variable {P:Program} {B:Nat} {w0:World} {g g':Gh} {w w2:World} {h h':Heap} {m:Tm} {a:Act} {nt:Nat} {cm:Nat→Nat}
structure Wr (w w2:World) (ib:Nat):Prop where
 old:∃ m s sn k,w.heap[ib]? = some (.mapIter m s sn k)
 new:∃ m s sn k,w2.heap[ib]? = some (.mapIter m s sn k)
 oth:∀ b,b ≠ ib→w2.heap[b]? = w.heap[b]?
 sz:w2.heap.size=w.heap.size
 os:w2.os=w.os
 tape:w2.tape=w.tape
 output:w2.output=w.output
theorem Wr.cell {ib:Nat} (hw:Wr w w2 ib) {b o:Nat} {v:Value} (h:w.cell? ⟨b,o,none⟩=some v):w2.cell? ⟨b,o,none⟩=some v:=by
 have hne:b ≠ ib:=fun e=>by
  subst e
  obtain ⟨m,s,sn,k,h1⟩:=hw.old
  simp [World.cell?,h1] at h
 rw [cell_of_heap (a:=⟨b,o,none⟩) (hw.oth b hne)]
 exact h
mutual
theorem R.reput {ib:Nat} (hw:Wr w w2 ib):∀ {v:FV} {x:Value},R g w v x→R g w2 v x
 |_,_,.undef v=>.undef v
 |_,_,.bool b=>.bool b
 |_,_,.int k n=>.int k n
 |_,_,.str s=>.str s
 |_,_,.agg cs vs hr=>.agg cs vs (RL.reput hw hr)
 |_,_,.tup cs vs hr=>.tup cs vs (RL.reput hw hr)
 |_,_,.lst0 e a cap he=>.lst0 e a cap he
 |_,_,.lst e xs b o es cap cs hne he hle hZ hes hx hr hc=>.lst e xs b o es cap cs hne he hle hZ hes hx (RL.reput hw hr) fun j v hj=>hw.cell (hc j v hj)
 |_,_,.eptr cs off b o vs hne hZ hr hc=>.eptr cs off b o vs hne hZ (RL.reput hw hr) fun j v hj=>hw.cell (hc j v hj)
 |_,_,.ptr id s i off l a hk hs hh=>.ptr id s i off l a hk hs hh
 |_,_,.nilp=>.nilp
 |_,_,.sref es id s off len l a cap hk he hs hle ha hh=>.sref es id s off len l a cap hk he hs hle ha hh
 |_,_,.map id b l hk hm hb=>.map id b l hk hm hb
 |_,_,.nilm=>.nilm
 |_,_,.fn f cs vs hlt hr=>.fn f cs vs hlt (RL.reput hw hr)
 |_,_,.bf f cs vs hlt hr=>.bf f cs vs hlt (RL.reput hw hr)
 |_,_,.nilf=>.nilf
 |_,_,.ifc t v x hr=>.ifc t v x (R.reput hw hr)
 |_,_,.nili=>.nili
 |_,_,.yl f id cs l b r ct hge hk hm hb hr hf hc=>.yl f id cs l b r ct hge hk hm hb hr hf (RL.reput hw hc)
theorem RL.reput {ib:Nat} (hw:Wr w w2 ib):∀ {vs:List FV} {xs:List Value},RL g w vs xs→RL g w2 vs xs
 |_,_,.nil=>.nil
 |_,_,.cons v x vs xs hr hs=>.cons v x vs xs (R.reput hw hr) (RL.reput hw hs)
end
theorem EnOk.reput {ib:Nat} (hw:Wr w w2 ib) {en:List (FV × FV)} {es:List MapEntry} (he:EnOk g w en es):EnOk g w2 en es:=by
 induction he with
 |nil=>exact .nil
 |cons k v e en es hk hv hs ih=>exact .cons k v e en es (hk.reput hw) (hv.reput hw) ih
theorem RT.reput {ib:Nat} (hw:Wr w w2 ib) (hm:RT g w m a):RT g w2 m a:=hm.map fun _ _ h=>h.reput hw
theorem Inv.reput {ib:Nat} (hI:Inv B w0 g h w) (hw:Wr w w2 ib) (hB:B ≤ ib):Inv B w0 g h w2:=by
 have old:=hw.old
 obtain ⟨im,is,isn,ik,hold⟩:=old
 refine ⟨hI.dom,fun i o l ho hl=>?_,hI.inj,fun i l b hl hb=>by rw [hw.sz];exact hI.own i l b hl hb,fun b hb=>by rw [hw.sz];exact hI.zlt b hb,?_,by rw [hw.sz];exact hI.size⟩
 ·have hob:=hI.obj i o l ho hl
  have row:∀ es xs,RowOk g w l es xs→RowOk g w2 l es xs:=fun es xs hr=>by
   obtain ⟨k1,k2,k3,k4,k5,k6,k7⟩:=hr
   refine ⟨k1,k2,k3,k4,k5,k6,fun bb hb=>?_⟩
   obtain ⟨arr,t,q1,q2,q3,cs,q4,q5⟩:=k7 bb hb
   have hne:bb ≠ ib:=fun e=>by subst e;rw [hold] at q1;cases q1
   exact ⟨arr,t,by rw [hw.oth bb hne];exact q1,q2,q3,cs,q4.reput hw,q5⟩
  have mp:∀ en,MapOk g w l en→MapOk g w2 l en:=fun en hr=>by
   obtain ⟨k1,k1',bb,es,clock,q1,q2,q3,q4⟩:=hr
   have hne:bb ≠ ib:=fun e=>by subst e;rw [hold] at q2;cases q2
   exact ⟨k1,k1',bb,es,clock,q1,by rw [hw.oth bb hne];exact q2,q3.reput hw,q4⟩
  cases o with
  |row es xs=>exact row es xs hob
  |fro es xs=>exact ⟨row es xs hob.1,hob.2⟩
  |mp en=>exact mp en hob
  |fmp en=>exact ⟨mp en hob.1,hob.2⟩
  |lp st jp =>
   obtain ⟨k1,bb,rr,q1,q2,q3⟩:=(hob:LpOk w l st jp)
   have hne:bb ≠ ib:=fun e=>by subst e;rw [hold] at q3;cases q3
   exact ⟨k1,bb,rr,q1,q2,by rw [hw.oth bb hne];exact q3⟩
  |sit s pos =>
   obtain ⟨k1,k2,k3,bb,q1,q2⟩:=(hob:SitOk w l s pos)
   have hne:bb ≠ ib:=fun e=>by subst e;rw [hold] at q2;cases q2
   exact ⟨k1,k2,k3,bb,q1,by rw [hw.oth bb hne];exact q2⟩
  |mit =>
   obtain ⟨k1,k2,k3,bb,m,s,sn,k,q1,qz,q2⟩:=(hob:MitOk g w l)
   by_cases e:bb=ib
   ·subst e
    obtain ⟨m',s',sn',k',h1⟩:=hw.new
    exact ⟨k1,k2,k3,bb,m',s',sn',k',q1,qz,h1⟩
   ·exact ⟨k1,k2,k3,bb,m,s,sn,k,q1,qz,by rw [hw.oth bb e];exact q2⟩
 ·exact hI.below.trans ⟨hw.os,hw.tape,hw.output,Nat.le_of_eq hw.sz.symm,fun k hk=>hw.oth k (by omega)⟩
theorem Marks.reput {ib lo:Nat} (hw:Wr w w2 ib):∀ {ds:List Deferred},Marks g w lo ds→Marks g w2 lo ds:=by
 intro ds
 induction ds with
 |nil=>intro _;trivial
 |cons d ds ih =>
  rintro ⟨⟨r,h1,h2,h3,h4,h5⟩,h6⟩
  refine ⟨⟨r,h1,h2,h3,?_,h5⟩,ih h6⟩
  have hne:r ≠ ib:=fun e=>by
   subst e
   obtain ⟨m,s,sn,k,ho⟩:=hw.old
   rw [ho] at h4;cases h4
  rw [hw.oth r hne];exact h4
theorem two_ops {rid:Nat} {ops:Array Oper} {o1 o2:Oper} (ho:ops.toList=[o1,o2]) (hg1:o1.guard=none) (hg2:o2.guard=none) (hd1:∀ c,o1.op ≠ .defer c) (hd2:∀ c,o2.op ≠ .defer c) {v1 v2:Value} {w1 w2:World}
  (h1:(execOp a.eval o1).run P w=.ok (.value v1) w1) (h2:(execOp (a.put o1.dst v1).eval o2).run P w1=.ok (.value v2) w2) (b:Frame) (k:List Item) (cs:List Frame) :
  Steps P (lone (b.atR a (.code (.region rid ops false)::k)) cs w) (lone (b.atR ((a.put o1.dst v1).put o2.dst v2) k) cs w2):=by
 have eops:ops=#[o1,o2]:=by cases ops;simp at ho;simp [ho]
 have hwp:wpOpsIn (fb b.roundOf) 0 P ops (fun e a' w'=>e=.normal∧a'=(a.put o1.dst v1).put o2.dst v2∧w'=w2) (List.range ops.size) a w:=by
  rw [eops]
  show wpOpsIn _ _ _ _ _ [0,1] _ _
  rw [wpOpsIn_cons]
  unfold wpOpIn
  simp only [List.getElem?_toArray,List.getElem?_cons_zero]
  have hw1:∀ (o:Oper) (hg:o.guard=none) (p:Nat→Option Bool),Region.wanted o p=true:=fun o hg p=>by simp [Region.wanted,hg]
  rw [hw1 _ hg1,if_pos rfl]
  refine ⟨fun _ _=>trivial,?_⟩
  rw [Oper.semAt_eq _ _ _ hd1,h1,Oper.uponIn_value,wpOpsIn_cons]
  unfold wpOpIn
  simp only [List.getElem?_toArray,List.getElem?_cons_succ,List.getElem?_cons_zero]
  rw [hw1 _ hg2,if_pos rfl]
  refine ⟨fun _ _=>trivial,?_⟩
  rw [Oper.semAt_eq _ _ _ hd2,h2,Oper.uponIn_value]
  exact ⟨rfl,rfl,rfl⟩
 obtain ⟨e,a',w',⟨rfl,rfl,rfl⟩,harr⟩:=wp_opsIn _ a w hwp b k cs rfl trivial (room_fb _ _)
 exact Steps.trans (.one stepR_region) (StepsIn.steps harr)
theorem run_setObj' {b:Nat} {o:Go.Obj} {im:Option Nat} {is ik:Nat} {isn:Array Nat} (hb:w.heap[b]? = some (.mapIter im is isn ik)):(setObj b o).run P w=.ok () { w with heap:=w.heap.setIfInBounds b o }:=by
 simp [setObj,Sem.run,hb]
theorem next_step {ty:TypeId} {ib mb since last:Nat} {seen:Array Nat} {es:Array MapEntry} {clock:Nat} (hib:w.heap[ib]? = some (.mapIter (some mb) since seen last)) (hmb:w.heap[mb]? = some (.map es clock)) (hold:∀ x ∈ es.toList,x.born < since) (hsc:since ≤ last) :
  ((leftOf es seen).toList=[]∧(Instr.next (.pointer (some ⟨ib,0,none⟩)) false ty).run P w=.ok (.tuple #[.bool false]) w) ∨
  ∃ (i:Nat) (e:MapEntry) (w2:World),(leftOf es seen).toList[i]? = some e∧Wr w w2 ib∧w2.heap[ib]? = some (.mapIter (some mb) since (seen.push e.born) clock) ∧
   (Instr.next (.pointer (some ⟨ib,0,none⟩)) false ty).run P w=.ok (.tuple #[.bool true,e.key,e.val]) w2:=by
 have hg1:(getObj ib).run P w=.ok (.mapIter (some mb) since seen last) w:=by simp [getObj,Sem.run,hib]
 have hg2:(getObj mb).run P w=.ok (.map es clock) w:=by simp [getObj,Sem.run,hmb]
 simp only [Instr.next,Sem.run_bind,Sem.run_pure,hg1,hg2,Result.andThen_ok,next_test_false seen es since last hold hsc,Bool.false_eq_true,if_false]
 unfold leftOf
 have hmem:∀ x ∈ (Array.filter (fun e=>!seen.contains e.born) es).toList,x.born < since:=fun x hx=>hold x (by simp at hx ⊢; exact hx.1)
 generalize Array.filter (fun e=>!seen.contains e.born) es=L at hmem ⊢
 have e1:L.filter (fun x=>decide (x.born < since))=L:=Array.filter_eq_self.2 (fun x hx=>by simpa using hmem x (by simpa using hx))
 have e2:L.filter (fun x=>decide (x.born ≥ since))=#[]:=by
  rw [Array.filter_eq_empty_iff]
  intro x hx
  have:=hmem x (by simpa using hx)
  simp;omega
 rw [e1,e2]
 simp only [Array.append_empty]
 by_cases hL:L.toList=[]
 ·left
  refine ⟨hL,?_⟩
  have:L=#[]:=by cases L;simpa using hL
  subst this
  simp [Question.forced]
 ·right
  have hne:L.isEmpty=false:=by
   cases L with | mk l=>simp at hL ⊢; exact hL
  have hsz:0 < L.size:=by
   cases L with | mk l=>simp at hL ⊢; exact List.length_pos_iff.2 hL
  simp only [hne,Bool.false_eq_true,if_false,Array.empty_append,Array.size_map]
  obtain ⟨c,w1,hc,hlt,hw1⟩:∃ c w1,(choose (.mapNext L.size)).run P w=.ok c w1∧c < L.size∧(w1.heap=w.heap∧w1.os=w.os∧w1.tape=w.tape∧w1.output=w.output):=by
   rw [run_choose_drew]
   split
   ·exact ⟨0,w,rfl,hsz,rfl,rfl,rfl,rfl⟩
   ·exact ⟨_,w.drew,rfl,by simp only [Question.cut];exact Nat.mod_lt _ hsz,rfl,rfl,rfl,rfl⟩
  have hget:(L.map some)[c]? = some (some L[c]):=by simp [hlt]
  have hib1:w1.heap[ib]? = some (.mapIter (some mb) since seen last):=by rw [hw1.1];exact hib
  have hblt:ib < w1.heap.size:=by
   rcases Nat.lt_or_ge ib w1.heap.size with h | h
   ·exact h
   ·simp [Array.getElem?_eq_none h] at hib1
  refine ⟨c,L[c],{ w1 with heap:=w1.heap.setIfInBounds ib (.mapIter (some mb) since (seen.push L[c].born) clock) },by simp [hlt],⟨⟨_,_,_,_,hib⟩,⟨some mb,since,seen.push L[c].born,clock,by simp [hblt]⟩,fun b hb=>?_,by simp [hw1.1],hw1.2.1,hw1.2.2.1,hw1.2.2.2⟩,by simp [hblt],?_⟩
  ·show (w1.heap.setIfInBounds ib _)[b]? = _
   rw [Array.getElem?_setIfInBounds_ne (by omega),hw1.1]
  ·rw [hc]
   simp only [Result.andThen_ok,hget]
   simp only [Sem.run_bind,run_setObj' hib1,Result.andThen_ok,Sem.run_pure]
theorem entry_step {ib mb since:Nat} {seen:Array Nat} {es:Array MapEntry} {clock:Nat} {e:MapEntry} (hib:w.heap[ib]? = some (.mapIter (some mb) since (seen.push e.born) clock)) (hmb:w.heap[mb]? = some (.map es clock)) (he:e ∈ es.toList) (hn:(es.toList.map (·.born)).Nodup) :
  (Instr.entry (.pointer (some ⟨ib,0,none⟩))).run P w=.ok (.tuple #[e.key,e.val]) w:=by
 have hg1:(getObj ib).run P w=.ok (.mapIter (some mb) since (seen.push e.born) clock) w:=by simp [getObj,Sem.run,hib]
 have hg2:(getObj mb).run P w=.ok (.map es clock) w:=by simp [getObj,Sem.run,hmb]
 have hf:es.find? (·.born == e.born)=some e:=by rw [← Array.find?_toList];exact find_born e es.toList hn he
 simp only [Instr.entry,Sem.run_bind,Sem.run_pure,hg1,hg2,Result.andThen_ok,Array.back?_push,bne_self_eq_false,Bool.false_eq_true,if_false,hf]
theorem picks_get {α:Type}:∀ (l:List α) (i:Nat) (x:α),l[i]? = some x→(x,l.eraseIdx i) ∈ picks l:=by
 intro l
 induction l with
 |nil=>intro i x h;simp at h
 |cons a l ih =>
  intro i x h
  cases i with
  |zero=>simp at h;subst h;simp [picks]
  |succ i =>
   simp only [List.getElem?_cons_succ] at h
   simp only [picks,List.eraseIdx_cons_succ,List.mem_cons,List.mem_map]
   exact .inr ⟨_,ih i x h,rfl⟩
theorem same_some:∀ {l:List (Option FV)} {r:FV},same l=some r→∀ x ∈ l,x=some r:=by
 intro l
 induction l with
 |nil=>intro r h;simp [same] at h
 |cons x l ih =>
  intro r h y hy
  cases l with
  |nil=>simp only [same] at h;simp at hy;rw [hy];exact h
  |cons z l =>
   simp only [same] at h
   obtain ⟨a,h1,h⟩:=bnd_some h
   obtain ⟨b,h2,h⟩:=bnd_some h
   split at h
   ·rename_i he
    have:=eqv_eq he
    subst this
    simp only [Option.some.injEq] at h;subst h
    rcases List.mem_cons.1 hy with hy | hy
    ·rw [hy];exact h1
    ·exact ih h2 y hy
   ·simp at h
theorem EnOk.get {en:List (FV × FV)} {es:List MapEntry} (he:EnOk g w en es) {i:Nat} {e:MapEntry} (hi:es[i]? = some e):∃ k v,en[i]? = some (k,v)∧R g w k e.key∧R g w v e.val:=by
 induction he generalizing i with
 |nil=>simp at hi
 |cons k v x en es hk hv hs ih =>
  cases i with
  |zero=>simp at hi;subst hi;exact ⟨k,v,rfl,hk,hv⟩
  |succ i=>simp at hi;exact ih hi
theorem EnOk.erase {en:List (FV × FV)} {es:List MapEntry} (he:EnOk g w en es):∀ i,EnOk g w (en.eraseIdx i) (es.eraseIdx i):=by
 induction he with
 |nil=>intro i;exact .nil
 |cons k v x en es hk hv hs ih =>
  intro i
  cases i with
  |zero=>exact hs
  |succ i=>exact .cons k v x _ _ hk hv (ih i)
theorem EnOk.len {en:List (FV × FV)} {es:List MapEntry} (he:EnOk g w en es):en.length=es.length:=by
 induction he<;>simp_all
theorem left_erase:∀ (l:List MapEntry) (p:Nat→Bool),(l.map (·.born)).Nodup→∀ (i:Nat) (e:MapEntry),(l.filter fun x=>p x.born)[i]? = some e→l.filter (fun x=>p x.born && x.born != e.born)=(l.filter fun x=>p x.born).eraseIdx i:=by
 intro l
 induction l with
 |nil=>intro p _ i e h;simp at h
 |cons x l ih =>
  intro p hn i e h
  simp only [List.map_cons,List.nodup_cons] at hn
  have hmem:∀ (j:Nat) (y:MapEntry),(l.filter fun x=>p x.born)[j]? = some y→y.born ∈ l.map (·.born):=fun j y hy=>List.mem_map_of_mem (List.mem_filter.1 (List.mem_of_getElem? hy)).1
  by_cases hp:p x.born=true
  ·simp only [List.filter_cons,hp,if_true] at h
   cases i with
   |zero =>
    simp at h;subst h
    simp only [List.filter_cons,hp,if_true,bne_self_eq_false,Bool.and_false,Bool.false_eq_true,if_false,List.eraseIdx_cons_zero]
    apply List.filter_congr
    intro y hy
    have:y.born ≠ x.born:=fun e=>hn.1 (by rw [← e];exact List.mem_map_of_mem hy)
    simp [this]
   |succ i =>
    simp only [List.getElem?_cons_succ] at h
    have hne:x.born ≠ e.born:=fun e'=>hn.1 (by rw [e'];exact hmem i e h)
    have hne':(x.born != e.born)=true:=by simp [hne]
    simp only [List.filter_cons,hp,hne',if_true,Bool.and_self,List.eraseIdx_cons_succ,ih p hn.2 i e h]
  ·have hp':p x.born=false:=by simpa using hp
   simp only [List.filter_cons,hp',Bool.false_eq_true,if_false,Bool.false_and] at h ⊢
   exact ih p hn.2 i e h
theorem left_push {es:Array MapEntry} {seen:Array Nat} (hn:(es.toList.map (·.born)).Nodup) {i:Nat} {e:MapEntry} (h:(leftOf es seen).toList[i]? = some e):(leftOf es (seen.push e.born)).toList=(leftOf es seen).toList.eraseIdx i:=by
 unfold leftOf at *
 rw [Array.toList_filter] at *
 rw [Array.toList_filter]
 rw [← left_erase es.toList (fun b=>!seen.contains b) hn i e h]
 apply List.filter_congr
 intro x _
 rw [Array.contains_push]
 simp [Bool.not_or,bne]
def EndM (P:Program) (f:Nat) (w00:World) (Z:Nat→Prop) (r:FV) (b:Frame) (cs:List Frame) (a:Act) (K:List Item) (w:World):Prop :=
 ∃ x w' fr,Below w00.heap.size w00 w'∧R ⟨fun _=>none,zone Z w00 w'⟩ w' r x∧Steps P (lone (b.atR a K) cs w) (lone fr cs w')∧fr.fn=f∧fr.leaving P w' (.returned x)
theorem EndM.step {f:Nat} {w00:World} {Z:Nat→Prop} {r:FV} {b:Frame} {cs:List Frame} {a a':Act} {K K':List Item} (hs:Steps P (lone (b.atR a K) cs w) (lone (b.atR a' K') cs w2)) (h:EndM P f w00 Z r b cs a' K' w2):EndM P f w00 Z r b cs a K w:=by
 obtain ⟨x,w',fr,h1,h2,h3,h4⟩:=h
 exact ⟨x,w',fr,h1,h2,hs.trans h3,h4⟩
structure StM (nt:Nat) (w00:World) (Z:Nat→Prop) (g:Gh) (h:Heap) (w:World) (m:Tm) (a:Act) (nx:Nat):Prop where
 inv:Inv w00.heap.size w00 g h w
 rt:RT g w m a
 size:a.tmps.size=nt
 z:∀ b,g.Z b→Z b ∨ w00.heap.size ≤ b
 marks:Marks g w w00.heap.size a.defers
 fresh:Fresh h nx
variable {rdO:Nat→Option Rd} {cal:Call} {w00:World} {Z:Nat→Prop}
theorem StM.run (hrk:∀ f r ct,RkOf P cm rdO f r ct→Sys.rk f r ct) (hcal:CalOkP P cal) (hst:Stable (np cal) cm) (hmix:P.follows .mixedOrders=true) {c:Code} {d:C} (hok:okC P cm rdO nt c d=true) {n nx:Nat} {x:Ex × Tm × Heap × Nat}
  (hr:run cal n [.code d] m h nx=some x) (hS:StM nt w00 Z g h w m a nx) {b:Frame} (hb:b.roundOf=none) (cs:List Frame) (K:List Item) (hx:x.1=.fin ∨ x.1=.ret) :
  ∃ g' a' w' K',Steps P (lone (b.atR a (.code c::K)) cs w) (lone (b.atR a' K') cs w')∧(x.1=.fin∧K'=K ∨ x.1=.ret∧∃ r,K'=.code .ret::r)∧StM nt w00 Z g' x.2.2.1 w' x.2.1 a' x.2.2.2∧Nx w00.heap.size w00 g g' x.2.2.1 w w':=by
 obtain ⟨ex,m',h',nx'⟩:=x
 obtain ⟨⟨q1,q3,q4⟩,q2⟩:=run_sound (nt:=nt) (B:=w00.heap.size) (w0:=w00) (K0:=K) hrk hcal hst hmix n _ _ _ _ _ _ _ _ hr _ nx (.code c d _ _ hok .nil) (fun b c hm=>by simp at hm) (Nat.le_refl _) hS.fresh
 obtain ⟨g',a',w',K',ms,fr0,r1,r2,r3,r4,r5,r5',r6,r7⟩:=q2 g w a b cs (fun q hq=>by rw [hb] at hq;cases hq) (fun id hm=>by simp at hm) hS.rt hS.size hS.inv
 rw [gcut_fresh hS.inv hS.fresh] at r6
 have hS':StM nt w00 Z g' h' w' m' a' nx':=by
  refine ⟨r6.inv,r3,r4,fun b hb=>?_,?_,q3⟩
  ·rcases r6.z b hb with h1 | h1
   ·exact hS.z b h1
   ·exact .inr h1
  ·rw [r5]
   exact Marks.append (Marks.mono (g:=g) (Nat.le_refl _) r6.le.z r6.le.heap hS.marks) hS.inv.size (fun d hd r e=>by
    obtain ⟨r',e',hz⟩:=Marks.mem hS.marks hd
    rw [e] at e'
    cases e'
    exact hS.inv.zlt r hz) r5'
 rcases hx with hx | hx
 ·cases hx
  obtain ⟨e1,rfl⟩:=r2
  exact ⟨g',a',w',K',r1,.inl ⟨rfl,e1⟩,hS',r6⟩
 ·cases hx
  obtain ⟨⟨r,e1⟩,rfl⟩:=r2
  exact ⟨g',a',w',K',r1,.inr ⟨rfl,r,e1⟩,hS',r6⟩
theorem StM.leave {f:Nat} {fn:Func} (hfn:P.funcs[f]? = some fn) {rs:List RV} (hres:okRes P fn.ntmps fn.results.toList rs=true) {x:Ex × Tm × Heap × Nat} {r:FV} (hr:resM rs x=some r) {nx:Nat} (hS:StM nt w00 Z g x.2.2.1 w x.2.1 a nx) {b:Frame} (hbf:b.fn=f) (hbk:b.kind=.normal) (hb:b.roundOf=none) (cs:List Frame) {K:List Item}
  (hK:K=[] ∨ ∃ l,K=.code .ret::l):EndM P f w00 Z r b cs a K w:=by
 obtain ⟨ex,m,h,nx2⟩:=x
 have hr':bnd (readRes m h rs) (fun vs=>frz h deep (result vs))=some r:=by
  cases ex<;>first | exact hr | (simp [resM] at hr)
 obtain ⟨out,o1,o2⟩:=bnd_some hr'
 have hs:Steps P (lone (b.atR a K) cs w) (lone { b.atR a K with mode:=.returning } cs w):=by
  rcases hK with rfl | ⟨l,rfl⟩
  ·exact .one (stepR_end hb)
  ·exact .one (stepR_ret hb)
 obtain ⟨g2,w2,l1,l2,l3,l4,l5,l6,l7,l8⟩:=leave_marks (P:=P) (ds:=[]) (u:=.returning) (by simp) (Nat.le_refl _) a.defers g w { b.atR a K with mode:=.returning } cs hS.marks rfl (by simp [Frame.atR]) hS.inv
 obtain ⟨y,z2,z3⟩:=results_sound l2 (hS.rt.map l3) hres o1
 refine ⟨y,w2,{ { b.atR a K with mode:=.returning } with defers:=[] },l2.below,?_,hs.trans l1,hbf,?_⟩
 ·exact ((frz_both (g2:=⟨fun _=>none,zone Z w00 w2⟩) l2 (fun b hb=>by
   rcases hS.z b (l5 b hb) with h1 | h1
   ·exact .inl h1
   ·exact .inr ⟨h1,l2.zlt b hb⟩) (fun i l b hl hbk=>by
   have:=l2.own i l b hl hbk
   exact .inr ⟨this.1,this.2.2⟩) deep).1 _ _ o2).val y z3
 ·subst hbf
  exact ⟨rfl,rfl,hbk,fn,hfn,z2⟩
theorem RT.skip (hm:RT g w m a) (hs:a.tmps.size=nt) {t0:Nat} (ht:t0 < nt) (h0:gt m t0=.undef) (x:Value):RT g w m (a.put (some t0) x):=by
 have h1:=hm.put hs (d:=some t0) (by simp [okDst,ht]) (.undef x)
 refine ⟨fun t=>?_,h1.gl⟩
 have h2:=h1.rt t
 by_cases e:t0=t
 ·subst e;rw [h0];exact .undef _
 ·have e2:gt (FI.put m (some t0) FV.undef) t=gt m t:=by simp [FI.put,gt,e]
  rw [e2] at h2;exact h2
theorem eval_put {t:Nat} (ht:t < a.tmps.size) (x:Value):(a.put (some t) x).eval (.tmp t)=x:=by simp [Act.eval,Act.put,Array.getD,ht]
omit [Sys] in
theorem ptr_eq {ib:Nat} {l:Loc} (hb:l.blk=some ib) {ad:Addr} (h:∃ b,l.blk=some b∧ad=⟨b,0 * l.es + 0,none⟩):ad=⟨ib,0,none⟩:=by
 obtain ⟨b,h1,rfl⟩:=h
 rw [hb] at h1;cases h1
 simp
theorem it_at {iid ib:Nat} {v:Value} (hr:R g w (.ptr iid 1 0 0) v) (hloc:∀ l,g.κ iid=some l→l.blk=some ib∧l.mp=true∧l.size=1):v=.pointer (some ⟨ib,0,none⟩):=by
 cases hr with | ptr _ _ _ _ l ad hk hs hh =>
 obtain ⟨h1,_,h3⟩:=hloc l hk
 rw [ptr_eq h1 (hh h3.symm)]
theorem end_mr (hrk:∀ f r ct,RkOf P cm rdO f r ct→Sys.rk f r ct) (hcal:CalOkP P cal) (hst:Stable (np cal) cm) (hmix:P.follows .mixedOrders=true) {n:Nat} {d:Mr} {f:Nat} {fn:Func} (hfn:P.funcs[f]? = some fn) (hres:okRes P fn.ntmps fn.results.toList d.res=true)
  {b:Frame} (hbf:b.fn=f) (hbk:b.kind=.normal) (hb:b.roundOf=none) (cs:List Frame) {rid7 b0:Nat} {nops:Array Oper} {t22 t23:Nat} {ty1 ty2:TypeId} {p1 p2:String} {f1 f2:Array Edge} {post:Code} {X:Code}
  (hnops:nops.toList=[⟨some t22,.next (.tmp d.it) false,ty1,p1,f1,none⟩,⟨some t23,.extract (.tmp t22) 0,ty2,p2,f2,none⟩])
  (hpost:okC P cm rdO fn.ntmps post d.post=true) (h22:t22 < fn.ntmps) (h23:t23 < fn.ntmps) (k22:t22 ∉ d.keep0) (k23:t23 ∉ d.keep0)
  {iid ib mb clock:Nat} {es:Array MapEntry} (hstm:Stamps es.toList clock) {r:FV} {L:Code} (hL:L=.seq (.region rid7 nops false) (.seq (.cond (.tmp t23) .skip (.exit b0)) X))
  {m:Tm} {h:Heap} {nx:Nat} (hr:chk (eqv (gt (keepOf m d.keep0) d.it) (.ptr iid 1 0 0)=true) (bnd (run cal n [.code d.post] (keepOf m d.keep0) h nx) (resM d.res))=some r) {a:Act} {seen:Array Nat} {last:Nat} (hS:StM fn.ntmps w00 Z g h w (keepOf m d.keep0) a nx)
  (hloc:∀ l,g.κ iid=some l→l.blk=some ib∧l.mp=true∧l.size=1) (hib:w.heap[ib]? = some (.mapIter (some mb) clock seen last)) (hlast:clock ≤ last) (hmb:w.heap[mb]? = some (.map es clock)) (hen:EnOk g w [] (leftOf es seen).toList) :
  EndM P f w00 Z r b cs a (.code L::.inLoop L::.inBlock b0::[.code post]) w:=by
 obtain ⟨hit2,hr⟩:=chk_some hr
 have hit:R g w (.ptr iid 1 0 0) (a.tmps.getD d.it undef):=by
  have h3:=hS.rt.rt d.it
  rw [eqv_eq hit2] at h3;exact h3
 have hl:(leftOf es seen).toList=[]:=by
  generalize (leftOf es seen).toList=l at hen
  cases hen;rfl
 have hav:=it_at hit hloc
 rcases next_step (P:=P) (ty:=ty1) hib hmb hstm.1 hlast with ⟨_,hnx⟩ | ⟨i,e,w2,hi,_⟩
 ·obtain ⟨a1,ha1⟩:∃ a1:Act,a1=(a.put (some t22) (.tuple #[.bool false])).put (some t23) (.bool false):=⟨_,rfl⟩
  have hst1:∀ K,Steps P (lone (b.atR a (.code (.region rid7 nops false)::K)) cs w) (lone (b.atR a1 K) cs w):=fun K=>by
   rw [ha1]
   refine two_ops (rid:=rid7) hnops rfl rfl (fun c=>by simp) (fun c=>by simp) (v1:=.tuple #[.bool false]) (v2:=.bool false) (w1:=w) ?_ ?_ b K cs
   ·refine exec_of_value (Instr.next (a.eval (.tmp d.it)) false ty1) rfl ?_
    rw [show a.eval (.tmp d.it)=a.tmps.getD d.it undef from rfl,hav]
    exact hnx
   ·refine exec_of_value (Instr.extract ((a.put (some t22) (.tuple #[.bool false])).eval (.tmp t22)) 0) rfl ?_
    rw [eval_put (by rw [hS.size];exact h22)]
    rfl
  have hs1:a1.tmps.size=fn.ntmps:=by rw [ha1];simp only [put_size];exact hS.size
  have hrt3:RT g w (keepOf m d.keep0) a1:=by
   rw [ha1]
   exact (hS.rt.skip hS.size h22 (gt_keepOf_not _ _ _ k22) _).skip (by rw [put_size];exact hS.size) h23 (gt_keepOf_not _ _ _ k23) _
  have hd1:a1.defers=a.defers:=by rw [ha1];simp only [put_defers]
  have hc1:a1.eval (.tmp t23)=.bool false:=by rw [ha1];exact eval_put (by rw [put_size,hS.size];exact h23) _
  have hS1:StM fn.ntmps w00 Z g h w (keepOf m d.keep0) a1 nx:=⟨hS.inv,hrt3,hs1,hS.z,by rw [hd1];exact hS.marks,hS.fresh⟩
  obtain ⟨x,k1,k2⟩:=bnd_some hr
  have hx:x.1=.fin ∨ x.1=.ret:=by
   obtain ⟨ex,m',h',nx'⟩:=x
   cases ex<;>simp [resM] at k2 ⊢
  obtain ⟨g',a',w',K',r1,r2,r3,_⟩:=StM.run hrk hcal hst hmix hpost k1 hS1 hb cs [] hx
  have hend:=r3.leave (P:=P) (f:=f) hfn hres k2 hbf hbk hb cs (K:=K') (by
   rcases r2 with ⟨_,h⟩ | ⟨_,h⟩
   ·exact .inl h
   ·exact .inr h)
  have hex:Go.exitTo b0 (.code X::.inLoop L::.inBlock b0::[.code post])=some [.code post]:=by simp [Go.exitTo]
  refine EndM.step (Steps.trans ?_ r1) hend
  rw [show (Item.code L)=.code (.seq (.region rid7 nops false) (.seq (.cond (.tmp t23) .skip (.exit b0)) X)) by rw [hL]]
  exact Steps.trans (.one stepR_seq) (Steps.trans (hst1 _) (Steps.trans (.one stepR_seq) (Steps.trans (.one (stepR_cond hc1)) (.one (stepR_exit hex)))))
 ·rw [hl] at hi;simp at hi
theorem loop_mr (hrk:∀ f r ct,RkOf P cm rdO f r ct→Sys.rk f r ct) (hcal:CalOkP P cal) (hst:Stable (np cal) cm) (hmix:P.follows .mixedOrders=true) {n:Nat} {d:Mr} {f:Nat} {fn:Func} (hfn:P.funcs[f]? = some fn) (hres:okRes P fn.ntmps fn.results.toList d.res=true)
  {b:Frame} (hbf:b.fn=f) (hbk:b.kind=.normal) (hb:b.roundOf=none) (cs:List Frame) {rid7 rid8 b0 b1:Nat} {nops eops:Array Oper} {t22 t23:Nat} {ty1 ty2 ty3:TypeId} {p1 p2 p3:String} {f1 f2 f3:Array Edge} {body post:Code} {rest8:List Oper}
  (hnops:nops.toList=[⟨some t22,.next (.tmp d.it) false,ty1,p1,f1,none⟩,⟨some t23,.extract (.tmp t22) 0,ty2,p2,f2,none⟩]) (heops:eops.toList=⟨some d.d,.entry (.tmp d.it),ty3,p3,f3,none⟩::rest8)
  (hbody:okC P cm rdO fn.ntmps body d.body=true) (hpost:okC P cm rdO fn.ntmps post d.post=true) (hops:okGs P eops fn.ntmps rest8 d.ops=true) (h22:t22 < fn.ntmps) (h23:t23 < fn.ntmps) (hd:d.d < fn.ntmps) (k22:t22 ∉ d.keep0) (k23:t23 ∉ d.keep0)
  {iid ib mb clock:Nat} {es:Array MapEntry} (hstm:Stamps es.toList clock) (hB:w00.heap.size ≤ ib) {r:FV} {L:Code} (hL:L=.seq (.region rid7 nops false) (.seq (.cond (.tmp t23) .skip (.exit b0)) (.block b1 (.seq (.region rid8 eops false) body)))) :
  ∀ (c:Nat) (left:List (FV × FV)) (m:Tm) (h:Heap) (nx:Nat),runAll (rops (np cal)) (run cal n) d iid c left m h nx=some r→∀ (g:Gh) (w:World) (a:Act) (seen:Array Nat) (last:Nat),StM fn.ntmps w00 Z g h w (keepOf m d.keep0) a nx →
   (∀ l,g.κ iid=some l→l.blk=some ib∧l.mp=true∧l.size=1)→g.Z ib→g.Z mb→w.heap[ib]? = some (.mapIter (some mb) clock seen last)→clock ≤ last→w.heap[mb]? = some (.map es clock)→EnOk g w left (leftOf es seen).toList →
   EndM P f w00 Z r b cs a (.code L::.inLoop L::.inBlock b0::[.code post]) w:=by
 intro c
 induction c with
 |zero =>
  intro left m h nx hr g w a seen last hS hloc hzi hzm hib hlast hmb hen
  cases left with
  |cons e es=>simp [runAll] at hr
  |nil =>
   simp only [runAll] at hr
   exact end_mr hrk hcal hst hmix hfn hres hbf hbk hb cs hnops hpost h22 h23 k22 k23 hstm hL hr hS hloc hib hlast hmb hen
 |succ c ih =>
  intro left m h nx hr g w a seen last hS hloc hzi hzm hib hlast hmb hen
  cases left with
  |nil =>
   simp only [runAll] at hr
   exact end_mr hrk hcal hst hmix hfn hres hbf hbk hb cs hnops hpost h22 h23 k22 k23 hstm hL hr hS hloc hib hlast hmb hen
  |cons e0 es0 =>
   simp only [runAll] at hr
   obtain ⟨hit2,hr⟩:=chk_some hr
   have hit:R g w (.ptr iid 1 0 0) (a.tmps.getD d.it undef):=by
    have h3:=hS.rt.rt d.it
    rw [eqv_eq hit2] at h3;exact h3
   have hav:=it_at hit hloc
   rcases next_step (P:=P) (ty:=ty1) hib hmb hstm.1 hlast with ⟨hl,_⟩ | ⟨i,e,w2,hi,hw,hib2,hnx⟩
   ·rw [hl] at hen;cases hen
   ·obtain ⟨k,v,hkv,hRk,hRv⟩:=hen.get hi
    have hpick:=same_some hr _ (List.mem_map_of_mem (picks_get _ _ _ hkv))
    obtain ⟨⟨m2,h2,nx2⟩,hIt,hAll⟩:=bnd_some hpick
    have hmb2:w2.heap[mb]? = some (.map es clock):=by
     rw [hw.oth mb (fun e=>by subst e;rw [hib] at hmb;cases hmb)];exact hmb
    have he:e ∈ es.toList:=(List.mem_filter.1 (by
     have:=List.mem_of_getElem? hi
     unfold leftOf at this
     rw [Array.toList_filter] at this
     exact this)).1
    unfold runIt at hIt
    obtain ⟨⟨m1,h1,nx1⟩,k1,hIt⟩:=bnd_some hIt
    obtain ⟨⟨ex,y⟩,k2,hIt⟩:=bnd_some hIt
    have hex:ex=.fin∧y=(m2,h2,nx2):=by
     cases ex<;>simp at hIt
     exact ⟨rfl,hIt⟩
    obtain ⟨rfl,rfl⟩:=hex
    have hI2:=hS.inv.reput hw hB
    have hrt2:=hS.rt.reput hw
    obtain ⟨a1,ha1⟩:∃ a1:Act,a1=(a.put (some t22) (.tuple #[.bool true,e.key,e.val])).put (some t23) (.bool true):=⟨_,rfl⟩
    have hst1:∀ K,Steps P (lone (b.atR a (.code (.region rid7 nops false)::K)) cs w) (lone (b.atR a1 K) cs w2):=fun K=>by
     rw [ha1]
     refine two_ops (rid:=rid7) hnops rfl rfl (fun c=>by simp) (fun c=>by simp) (v1:=.tuple #[.bool true,e.key,e.val]) (v2:=.bool true) (w1:=w2) ?_ ?_ b K cs
     ·refine exec_of_value (Instr.next (a.eval (.tmp d.it)) false ty1) rfl ?_
      rw [show a.eval (.tmp d.it)=a.tmps.getD d.it undef from rfl,hav]
      exact hnx
     ·refine exec_of_value (Instr.extract ((a.put (some t22) (.tuple #[.bool true,e.key,e.val])).eval (.tmp t22)) 0) rfl ?_
      rw [eval_put (by rw [hS.size];exact h22)]
      rfl
    have hs1:a1.tmps.size=fn.ntmps:=by rw [ha1];simp only [put_size];exact hS.size
    have hrt3:RT g w2 (keepOf m d.keep0) a1:=by
     rw [ha1]
     exact (hrt2.skip hS.size h22 (gt_keepOf_not _ _ _ k22) _).skip (by rw [put_size];exact hS.size) h23 (gt_keepOf_not _ _ _ k23) _
    have hd1:a1.defers=a.defers:=by rw [ha1];simp only [put_defers]
    have hit1:a1.eval (.tmp d.it)=.pointer (some ⟨ib,0,none⟩):=by
     have h3:=hrt3.rt d.it
     rw [eqv_eq hit2] at h3
     exact it_at h3 hloc
    have hc1:a1.eval (.tmp t23)=.bool true:=by rw [ha1];exact eval_put (by rw [put_size,hS.size];exact h23) _
    have hf1:Fresh h (nx + (d.ops.length + 1)):=fun i hi=>hS.fresh i (by omega)
    have hwp:wpOpsIn (fb b.roundOf) 0 P eops (RegPost w00.heap.size w00 fn.ntmps a1 g h w2 (fun _=>True) m1 h1) (List.range eops.size) a1 w2:=by
     have hlen:eops.size=d.ops.length + 1:=by
      have h1:eops.toList.length=rest8.length + 1:=by rw [heops];rfl
      have h2:=(okGs_get _ _ hops).1
      simp at h1
      omega
     rw [List.range_eq_range',hlen,show List.range' 0 (d.ops.length + 1)=0::List.range' 1 d.ops.length from rfl,wpOpsIn_cons]
     unfold wpOpIn
     have h0:eops[0]? = some ⟨some d.d,.entry (.tmp d.it),ty3,p3,f3,none⟩:=by
      rw [← Array.getElem?_toList,heops];rfl
     rw [h0]
     have hw1:∀ (o:Oper) (hg:o.guard=none) (p:Nat→Option Bool),Region.wanted o p=true:=fun o hg p=>by simp [Region.wanted,hg]
     simp only
     rw [hw1 _ rfl,if_pos rfl]
     refine ⟨fun _ _=>trivial,?_⟩
     rw [Oper.semAt_eq _ _ _ (by intro c;simp)]
     rw [exec_of_value (Instr.entry (a1.eval (.tmp d.it))) rfl (z:=.tuple #[e.key,e.val]) (w':=w2) (by rw [hit1];exact entry_step hib2 hmb2 he hstm.2),Oper.uponIn_value]
     refine rops_sound hcal.np d.ops 1 (nx + 1) _ h (nx + (d.ops.length + 1)) m1 h1 nx1 g w2 _ (by rw [heops];exact hops) k1 ?_ (by rw [put_size];exact hs1) (by rw [put_defers]) (.refl hI2) (fun j hj _=>hS.fresh j (by omega)) (by omega) hf1 (fun _ _ h=>⟨h,rfl⟩) (fun _ _ _=>trivial) (fun _ _ _=>trivial)
     exact hrt3.put hs1 (by simp [okDst,hd]) (.tup _ _ (.cons _ _ _ _ (hRk.reput hw) (.cons _ _ _ _ (hRv.reput hw) .nil)))
    obtain ⟨ee,a2,w3,⟨rfl,g3,q1,q2,q3,q4,_⟩,harr⟩:=wp_opsIn _ a1 w2 hwp b (.code body::.inBlock b1::.inLoop L::.inBlock b0::[.code post]) cs rfl trivial (room_fb _ _)
    obtain ⟨_,hnew⟩:=rops_new hcal.np d.ops (nx + 1) _ h (nx + (d.ops.length + 1)) m1 h1 nx1 (fun j hj _=>hS.fresh j (by omega)) (by omega) hf1 k1
    have hle:nx + (d.ops.length + 1) ≤ nx1:=(rops_new hcal.np d.ops (nx + 1) _ h (nx + (d.ops.length + 1)) m1 h1 nx1 (fun j hj _=>hS.fresh j (by omega)) (by omega) hf1 k1).1
    have hS3:StM fn.ntmps w00 Z g3 h1 w3 (keepOf m1 d.keep) a2 nx1:=by
     refine ⟨q4.inv,q1.keep _,q2,fun bb hb=>?_,?_,fun i hi=>hnew i (hS.fresh i (by omega)) (by omega) (.inr hi)⟩
     ·rcases q4.z bb hb with h | h
      ·exact hS.z bb h
      ·exact .inr h
     ·rw [q3,hd1]
      exact Marks.mono (g:=g) (Nat.le_refl _) q4.le.z q4.le.heap (hS.marks.reput hw)
    obtain ⟨g4,a4,w4,K4,r1,r2,r3,r4⟩:=StM.run hrk hcal hst hmix hbody k2 hS3 hb cs (.inBlock b1::.inLoop L::.inBlock b0::[.code post]) (.inl rfl)
    have hK4:K4=.inBlock b1::.inLoop L::.inBlock b0::[.code post]:=by
     rcases r2 with ⟨_,h⟩ | ⟨h,_⟩
     ·exact h
     ·cases h
    subst hK4
    have hz2:g4.Z ib:=r4.le.z ib (q4.le.z ib hzi)
    have hzm2:g4.Z mb:=r4.le.z mb (q4.le.z mb hzm)
    have hib4:w4.heap[ib]? = some (.mapIter (some mb) clock (seen.push e.born) clock):=by
     rw [r4.le.heap ib (q4.le.z ib hzi),q4.le.heap ib hzi];exact hib2
    have hmb4:w4.heap[mb]? = some (.map es clock):=by
     rw [r4.le.heap mb (q4.le.z mb hzm),q4.le.heap mb hzm];exact hmb2
    have hle4:GLe g g4 w2 w4:=q4.le.trans r4.le
    have hloc4:∀ l,g4.κ iid=some l→l.blk=some ib∧l.mp=true∧l.size=1:=by
     intro l hl
     obtain ⟨l0,hl0⟩:∃ l0,g.κ iid=some l0:=by
      generalize a.tmps.getD d.it undef=q at hit
      cases hit with | ptr _ _ _ _ l ad hk hs hh=>exact ⟨l,hk⟩
     obtain ⟨l',h1,_,_,h4⟩:=hle4.k iid l0 hl0
     rw [hl] at h1;cases h1
     rw [h4 (.inr (hloc l0 hl0).2.1)]
     exact hloc l0 hl0
    have hen4:EnOk g4 w4 (((e0::es0).eraseIdx i)) (leftOf es (seen.push e.born)).toList:=by
     rw [left_push hstm.2 hi]
     exact ((hen.erase i).reput hw).mono hle4
    have hend:=ih _ m2 h2 nx2 hAll g4 w4 a4 (seen.push e.born) clock ⟨r3.inv,r3.rt.keep _,r3.size,r3.z,r3.marks,r3.fresh⟩ hloc4 hz2 hzm2 hib4 (Nat.le_refl _) hmb4 hen4
    refine EndM.step ?_ hend
    have s1:Steps P (lone (b.atR a (.code L::.inLoop L::.inBlock b0::[.code post])) cs w) (lone (b.atR a1 (.code (.region rid8 eops false)::.code body::.inBlock b1::.inLoop L::.inBlock b0::[.code post])) cs w2):=by
     rw [show (Item.code L)=.code (.seq (.region rid7 nops false) (.seq (.cond (.tmp t23) .skip (.exit b0)) (.block b1 (.seq (.region rid8 eops false) body)))) by rw [hL]]
     exact Steps.trans (.one stepR_seq) (Steps.trans (hst1 _) (Steps.trans (.one stepR_seq) (Steps.trans (.one (stepR_cond hc1)) (Steps.trans (.one stepR_skip) (Steps.trans (.one stepR_block) (.one stepR_seq))))))
    exact Steps.trans s1 (Steps.trans (.one stepR_region) (Steps.trans (StepsIn.steps harr) (Steps.trans r1 (Steps.trans (.one stepR_inBlock) (.one stepR_inLoop)))))
theorem freeze_map (hI:Inv B w0 g h w) {id:Nat} {en:List (FV × FV)} (hg:hget h id=some (.mp en)) {mb:Nat} {l:Loc} (hk:g.κ id=some l) (hb:l.blk=some mb) :
  Inv B w0 ⟨g.κ,fun b=>g.Z b ∨ b=mb⟩ (hset h id (.fmp en)) w∧GLe g ⟨g.κ,fun b=>g.Z b ∨ b=mb⟩ w w:=by
 have hle:GLe g ⟨g.κ,fun b=>g.Z b ∨ b=mb⟩ w w:=⟨fun b h=>.inl h,fun _ _=>rfl,KLe.refl _⟩
 refine ⟨⟨fun j l hl=>?_,fun j o l' ho hl=>?_,hI.inj,fun j l' b hl hb'=>?_,fun b hb'=>?_,hI.below,hI.size⟩,hle⟩
 ·rw [hget_hset hg]
  split
  ·exact ⟨_,rfl⟩
  ·exact hI.dom j l hl
 ·rw [hget_hset hg] at ho
  split at ho
  ·rename_i e
   cases ho
   subst e
   refine ⟨MapOk.mono hle (fun _ _=>rfl) (hI.obj _ _ l' hg hl),fun b hb'=>.inr ?_⟩
   rw [hk] at hl;cases hl
   rw [hb] at hb';cases hb';rfl
  ·exact (hI.obj j o l' ho hl).mono hle fun _ _=>rfl
 ·obtain ⟨h1,h2,h3⟩:=hI.own j l' b hl hb'
  refine ⟨h1,fun hf hz=>?_,h3⟩
  rw [hget_hset hg] at hf
  split at hf
  ·cases hf
  ·rename_i e
   rcases hz with hz | hz
   ·exact h2 hf hz
   ·subst hz;exact e (hI.inj j id l' l b hl hk hb' hb)
 ·rcases hb' with hb' | rfl
  ·exact hI.zlt b hb'
  ·exact (hI.own id l b hk hb).2.2
theorem add_mit (hI:Inv B w0 g h w) {id:Nat} (hn:hget h id=none) {im:Option Nat} {is ik:Nat} {isn:Array Nat} {o:Go.Obj} (ho:o=.mapIter im is isn ik) :
  Inv B w0 ⟨upd g.κ id ⟨some w.heap.size,1,0,1,true,none⟩,fun b=>g.Z b ∨ b=w.heap.size⟩ ((id,.mit)::h) (w.alloc o)∧GLe g ⟨upd g.κ id ⟨some w.heap.size,1,0,1,true,none⟩,fun b=>g.Z b ∨ b=w.heap.size⟩ w (w.alloc o):=by
 have hk0:=kNone hI hn
 obtain ⟨h1,h2⟩:=hI.still o
 have hk:∀ i l,upd g.κ id ⟨some w.heap.size,1,0,1,true,none⟩ i=some l→(i=id∧l=⟨some w.heap.size,1,0,1,true,none⟩) ∨ (i ≠ id∧g.κ i=some l):=fun i l hl=>by
  simp only [upd] at hl
  split at hl
  ·rename_i e;simp only [Option.some.injEq] at hl;exact .inl ⟨e,hl.symm⟩
  ·rename_i e;exact .inr ⟨e,hl⟩
 have hle2:GLe ⟨g.κ,fun b=>g.Z b ∨ b=w.heap.size⟩ ⟨upd g.κ id ⟨some w.heap.size,1,0,1,true,none⟩,fun b=>g.Z b ∨ b=w.heap.size⟩ (w.alloc o) (w.alloc o):=⟨fun _ h=>h,fun _ _=>rfl,fun i l hl=>by
  refine ⟨l,?_,Nat.le_refl _,rfl,fun _=>rfl⟩
  simp only [upd]
  rw [if_neg (fun e=>by subst e;simp only at hl;rw [hk0] at hl;cases hl)]
  exact hl⟩
 have hnew:(w.alloc o).heap[w.heap.size]? = some (.mapIter im is isn ik):=by rw [alloc_heap];rw [ho]
 have ownlt:∀ i l b,g.κ i=some l→l.blk=some b→b < w.heap.size:=fun i l b h1 h2=>(hI.own i l b h1 h2).2.2
 refine ⟨⟨fun i l hl=>?_,fun i q l hq hl=>?_,fun i j li lj b hi hj hbi hbj=>?_,fun i l b hl hb=>?_,h1.zlt,h1.below,h1.size⟩,h2.trans hle2⟩
 ·rw [hget_cons]
  rcases hk i l hl with ⟨rfl,_⟩ | ⟨e,hl⟩
  ·exact ⟨.mit,by simp⟩
  ·rw [if_neg e];exact hI.dom i l hl
 ·rw [hget_cons] at hq
  rcases hk i l hl with ⟨rfl,rfl⟩ | ⟨e,hl⟩
  ·rw [if_pos rfl] at hq;cases hq
   exact ⟨rfl,rfl,rfl,_,_,_,_,_,rfl,.inr rfl,hnew⟩
  ·rw [if_neg e] at hq
   exact (h1.obj i q l hq hl).mono hle2 fun _ _=>rfl
 ·rcases hk i li hi with ⟨e1,e2⟩ | ⟨ei,hi2⟩<;>rcases hk j lj hj with ⟨e3,e4⟩ | ⟨ej,hj2⟩
  ·rw [e1,e3]
  ·subst e2;simp only [Option.some.injEq] at hbi;subst hbi
   have:=ownlt j lj _ hj2 hbj;omega
  ·subst e4;simp only [Option.some.injEq] at hbj;subst hbj
   have:=ownlt i li _ hi2 hbi;omega
  ·exact hI.inj i j li lj b hi2 hj2 hbi hbj
 ·rcases hk i l hl with ⟨rfl,rfl⟩ | ⟨e,hl⟩
  ·simp only [Option.some.injEq] at hb;subst hb
   refine ⟨hI.size,fun hf=>?_,by simp⟩
   rw [hget_cons,if_pos rfl] at hf;cases hf
  ·have:=h1.own i l b hl hb
   rw [hget_cons,if_neg e]
   exact this
theorem pre_mr (hrk:∀ f r ct,RkOf P cm rdO f r ct→Sys.rk f r ct) (hcal:CalOkP P cal) (hst:Stable (np cal) cm) (hmix:P.follows .mixedOrders=true) {n:Nat} {d:Mr} {b:Frame} (hb:b.roundOf=none) (cs:List Frame):∀ (ps:List C) (c:Code),okMrC P cm rdO nt d ps c=true →
  ∀ (m:Tm) (h:Heap) (nx:Nat) (x:Ex × Tm × Heap × Nat),runPre (run cal n) ps m h nx=some x→(x.1=.fin ∨ x.1=.ret)→∀ (g:Gh) (w:World) (a:Act),StM nt w00 Z g h w m a nx →
  ∃ g' a' w' K',Steps P (lone (b.atR a [.code c]) cs w) (lone (b.atR a' K') cs w')∧StM nt w00 Z g' x.2.2.1 w' x.2.1 a' x.2.2.2∧((x.1=.fin∧∃ c',K'=[.code c']∧okMrC P cm rdO nt d [] c'=true) ∨ (x.1=.ret∧∃ l,K'=.code .ret::l)):=by
 intro ps
 induction ps with
 |nil =>
  intro c hok m h nx x hr hx g w a hS
  simp only [runPre,Option.some.injEq] at hr
  subst hr
  exact ⟨g,a,w,_,.refl _ _,hS,.inl ⟨rfl,c,rfl,hok⟩⟩
 |cons p ps ih =>
  intro c hok m h nx x hr hx g w a hS
  cases c<;>simp only [okMrC,Bool.false_eq_true] at hok
  rename_i c1 c2
  simp only [Bool.and_eq_true] at hok
  simp only [runPre] at hr
  obtain ⟨⟨ey,m1,h1,nx1⟩,k1,hr⟩:=bnd_some hr
  have two:ey=.fin∧runPre (run cal n) ps m1 h1 nx1=some x ∨ ey=.ret∧x=(.ret,m1,h1,nx1):=by
   cases ey with
   |fin=>exact .inl ⟨rfl,hr⟩
   |ret=>simp only [Option.some.injEq] at hr;exact .inr ⟨rfl,hr.symm⟩
   |xt e=>simp only [Option.some.injEq] at hr;subst hr;simp at hx
   |pan e=>simp only [Option.some.injEq] at hr;subst hr;simp at hx
  rcases two with ⟨rfl,hr2⟩ | ⟨rfl,rfl⟩
  ·obtain ⟨g',a',w',K',r1,r2,r3,_⟩:=StM.run hrk hcal hst hmix hok.1 k1 hS hb cs [.code c2] (.inl rfl)
   have hK:K'=[.code c2]:=by
    rcases r2 with ⟨_,h⟩ | ⟨h,_⟩
    ·exact h
    ·cases h
   subst hK
   obtain ⟨g2,a2,w2,K2,s1,s2,s3⟩:=ih c2 hok.2 _ _ _ _ hr2 hx g' w' a' r3
   exact ⟨g2,a2,w2,K2,Steps.trans (.one stepR_seq) (Steps.trans r1 s1),s2,s3⟩
  ·obtain ⟨g',a',w',K',r1,r2,r3,_⟩:=StM.run hrk hcal hst hmix hok.1 k1 hS hb cs [.code c2] (.inr rfl)
   refine ⟨g',a',w',K',Steps.trans (.one stepR_seq) r1,r3,.inr ⟨rfl,?_⟩⟩
   rcases r2 with ⟨h,_⟩ | ⟨_,h⟩
   ·cases h
   ·exact h
theorem enter_mr (hrk:∀ f r ct,RkOf P cm rdO f r ct→Sys.rk f r ct) (hcal:CalOkP P cal) (hst:Stable (np cal) cm) (hmix:P.follows .mixedOrders=true) {n f:Nat} {d:Mr} (hok:okMr P cm rdO f d=true) {args:List FV} {nx nx':Nat} {v:FV}
  (he:enterM (rops (np cal)) (run cal n) d args h nx=some (v,h',nx')):entered P f=true∧h'=h∧nx'=nx∧pures args=true∧IsoCall P f args v:=by
 unfold okMr at hok
 split at hok
 ·rename_i fn hfn
  split at hok
  ·rename_i c hc
   simp only [Bool.and_eq_true,decide_eq_true_eq,Bool.not_eq_true'] at hok
   obtain ⟨⟨⟨k1,k2⟩,k3⟩,k4⟩:=hok
   unfold enterM at he
   obtain ⟨v',he2,hv⟩:=bnd_some he
   clear he
   have he:=he2
   clear he2
   simp only [Option.some.injEq,Prod.mk.injEq] at hv
   obtain ⟨rfl,rfl,rfl⟩:=hv
   unfold mrV at he
   obtain ⟨⟨hnp,hp⟩,he⟩:=chk_some he
   obtain ⟨x,x1,he⟩:=bnd_some he
   obtain ⟨ex,m1,h1,nx1⟩:=x
   have hx:ex=.fin ∨ ex=.ret:=by cases ex<;>simp at he ⊢
   have two:(ex=.ret∧resM d.res (ex,m1,h1,nx1)=some v') ∨ (ex=.fin∧∃ id en,gt m1 d.mp=.map id∧hget h1 id=some (.mp en) ∧
     runAll (rops (np cal)) (run cal n) d nx1 en.length en (put m1 (some d.it) (.ptr nx1 1 0 0)) ((nx1,.mit)::hset h1 id (.fmp en)) (nx1 + 1)=some v'):=by
    rcases hx with rfl | rfl
    ·right
     simp only at he
     refine ⟨rfl,?_⟩
     split at he
     ·rename_i id hid
      split at he
      ·rename_i en hen
       exact ⟨id,en,hid,hen,he⟩
      ·simp at he
     ·simp at he
    ·left
     exact ⟨rfl,he⟩
   refine ⟨by simp [entered,hfn,hc,k4],rfl,rfl,hp,fun Z w xs hz hgl hxs cs=>?_⟩
   let b:Frame:={ (default:Frame) with fn:=f,kind:=.normal,roundOf:=none }
   have hlen:=hxs.length
   have henter:Frame.enter P f xs.toArray .normal=b.atR ⟨xs.toArray ++ Array.replicate (fn.ntmps - xs.length) undef,[]⟩ [.code c]:=by
    simp [Frame.enter,Frame.atR,hfn,hc,b]
   have hS0:StM fn.ntmps w Z ⟨fun _=>none,Z⟩ [] w (params 0 args) ⟨xs.toArray ++ Array.replicate (fn.ntmps - xs.length) undef,[]⟩ 0 :=
    ⟨Inv.scope w Z hz,RT_params hxs hgl _,by simp;omega,fun b hb=>.inl hb,trivial,fun i _=>rfl⟩
   suffices hE:EndM P f w Z v' b cs ⟨xs.toArray ++ Array.replicate (fn.ntmps - xs.length) undef,[]⟩ [.code c] w by
    obtain ⟨y,w',fr,e1,e2,e3,e4,e5⟩:=hE
    refine ⟨.returned y,w',fr,⟨y,rfl,e1,e2⟩,?_,e4,e5⟩
    rw [henter];exact e3
   obtain ⟨g1,a1,w1,K1,s1,hS1,s3⟩:=pre_mr hrk hcal hst hmix (b:=b) rfl cs d.pre c k1 _ _ _ _ x1 hx _ w _ hS0
   refine EndM.step s1 ?_
   rcases two with ⟨rfl,hres⟩ | ⟨rfl,id,en,hid,hen,hall⟩
   ·exact StM.leave (x:=(.ret,m1,h1,nx1)) hfn k3 hres hS1 rfl rfl rfl cs (by
     rcases s3 with ⟨h,_⟩ | ⟨_,h⟩
     ·cases h
     ·exact .inr h)
   ·rcases s3 with ⟨_,c',rfl,hok2⟩ | ⟨h,_⟩
    ·simp only at hS1
     simp only [okMrC] at hok2
     unfold okWalk at hok2
     split at hok2
     ·rename_i r6 rops b0 r7 nops t23 b0' b1 r8 eops body post
      simp only [Bool.and_eq_true,beq_iff_eq] at hok2
      obtain ⟨⟨⟨⟨⟨rfl,hbody⟩,hpost⟩,hro⟩,hno⟩,heo⟩:=hok2
      split at hro
      case h_2=>simp at hro
      rename_i t20 x6 ty6 p6 f6 t21 mt t20' ty7 p7 f7 hrops
      simp only [Bool.and_eq_true,beq_iff_eq,decide_eq_true_eq,Bool.not_eq_true'] at hro
      obtain ⟨⟨⟨⟨⟨⟨hx6,rfl⟩,rfl⟩,hk20⟩,h20⟩,h21⟩,hmt⟩:=hro
      split at hno
      case h_2=>simp at hno
      rename_i t22 t21' ty8 p8 f8 t23' t22' ty9 p9 f9 hnops
      simp only [Bool.and_eq_true,beq_iff_eq,decide_eq_true_eq,Bool.not_eq_true'] at hno
      obtain ⟨⟨⟨⟨⟨⟨rfl,rfl⟩,rfl⟩,hk22⟩,hk23⟩,h22⟩,h23⟩:=hno
      split at heo
      case h_2=>simp at heo
      rename_i t24 t21'' ty10 p10 f10 rest8 heops
      simp only [Bool.and_eq_true,beq_iff_eq,decide_eq_true_eq] at heo
      obtain ⟨⟨⟨rfl,h24⟩,rfl⟩,hops⟩:=heo
      obtain ⟨dsc,hdsc,hp'⟩:=desc_of hmt
      cases dsc<;>simp at hp'
      rename_i kd ed
      have hmp:=R_okX hS1.rt hx6
      rw [show ev m1 (.t d.mp)=gt m1 d.mp from rfl,hid] at hmp
      obtain ⟨mb,l,es,clock,em,hκ,hbl,hlm,hmb,hen2,hstm⟩:=map_at hS1.inv hmp hen
      obtain ⟨hI2,hle2⟩:=freeze_map hS1.inv hen hκ hbl
      have hfr:hget (hset h1 id (.fmp en)) nx1=none:=by
       rw [hget_hset hen,if_neg]
       ·exact hS1.fresh nx1 (Nat.le_refl _)
       ·intro e;subst e
        rw [hS1.fresh _ (Nat.le_refl _)] at hen;cases hen
      obtain ⟨hI3,hle3⟩:=add_mit hI2 hfr (o:=.mapIter (some mb) clock #[] clock) rfl
      have hle:=hle2.trans hle3
      obtain ⟨a2,ha2⟩:∃ a2:Act,a2=(a1.put (some t20) (.map (some mb))).put (some d.it) (.pointer (some ⟨w1.heap.size,0,none⟩)):=⟨_,rfl⟩
      have hst6:∀ K,Steps P (lone (b.atR a1 (.code (.region r6 rops false)::K)) cs w1) (lone (b.atR a2 K) cs (w1.alloc (.mapIter (some mb) clock #[] clock))):=fun K=>by
       rw [ha2]
       refine two_ops (rid:=r6) hrops rfl rfl (fun c=>by simp) (fun c=>by simp) (v1:=.map (some mb)) (v2:=.pointer (some ⟨w1.heap.size,0,none⟩)) (w1:=w1) ?_ ?_ b K cs
       ·rw [← em]
        exact exec_of_value (pure (a1.eval x6)) rfl rfl
       ·refine exec_of_value (Instr.range mt ((a1.put (some t20) (.map (some mb))).eval (.tmp t20))) rfl ?_
        rw [eval_put (by rw [hS1.size];exact h20)]
        exact run_range_map w1 mt kd ed mb es clock hdsc hmb
      have hsz2:a2.tmps.size=fn.ntmps:=by rw [ha2];simp only [put_size];exact hS1.size
      have hrt:RT ⟨upd g1.κ nx1 ⟨some w1.heap.size,1,0,1,true,none⟩,fun b=>(g1.Z b ∨ b=mb) ∨ b=w1.heap.size⟩ (w1.alloc (.mapIter (some mb) clock #[] clock)) (keepOf (put m1 (some d.it) (.ptr nx1 1 0 0)) d.keep0) a2:=by
       have q1:=((hS1.rt.mono hle).put hS1.size (d:=some t20) (by simp [okDst,h20]) (.undef (.map (some mb))))
       have q2:=q1.put (by rw [put_size];exact hS1.size) (d:=some d.it) (show decide (d.it < fn.ntmps)=true from decide_eq_true h21) (v:=.ptr nx1 1 0 0) (x:=.pointer (some ⟨w1.heap.size,0,none⟩)) (.ptr nx1 1 0 0 ⟨some w1.heap.size,1,0,1,true,none⟩ _ (by simp [upd]) (Nat.le_refl _) fun _=>⟨_,rfl,rfl⟩)
       rw [← ha2] at q2
       refine ⟨fun t=>?_,q2.gl⟩
       by_cases ht:t ∈ d.keep0
       ·rw [gt_keepOf _ _ _ ht]
        have hne:t20 ≠ t:=fun e=>by subst e;simp at hk20;exact hk20 ht
        have q3:=q2.rt t
        have e1:gt (put (put m1 (some t20) .undef) (some d.it) (.ptr nx1 1 0 0)) t=gt (put m1 (some d.it) (.ptr nx1 1 0 0)) t:=by
         simp only [put,gt]
         by_cases e:d.it=t
         ·simp [e]
         ·simp [e,hne]
        rw [e1] at q3;exact q3
       ·rw [gt_keepOf_not _ _ _ ht];exact .undef _
      have hS2:StM fn.ntmps w Z ⟨upd g1.κ nx1 ⟨some w1.heap.size,1,0,1,true,none⟩,fun b=>(g1.Z b ∨ b=mb) ∨ b=w1.heap.size⟩ ((nx1,.mit)::hset h1 id (.fmp en)) (w1.alloc (.mapIter (some mb) clock #[] clock)) (keepOf (put m1 (some d.it) (.ptr nx1 1 0 0)) d.keep0) a2 (nx1 + 1):=by
       refine ⟨hI3,hrt,hsz2,fun bb hbb=>?_,?_,fun i hi=>?_⟩
       ·rcases hbb with (h | rfl) | rfl
        ·exact hS1.z bb h
        ·exact .inr (hS1.inv.own id l _ hκ hbl).1
        ·exact .inr hS1.inv.size
       ·have:a2.defers=a1.defers:=by rw [ha2];simp only [put_defers]
        rw [this]
        exact Marks.mono (g:=g1) (Nat.le_refl _) hle.z hle.heap hS1.marks
       ·rw [hget_cons,if_neg (by omega),hget_hset hen,if_neg]
        ·exact hS1.fresh i (by omega)
        ·intro e;subst e
         rw [hS1.fresh _ (by omega)] at hen;cases hen
      have hmblt:mb < w1.heap.size:=(hS1.inv.own id l mb hκ hbl).2.2
      have hend:=loop_mr hrk hcal hst hmix hfn k3 (b:=b) rfl rfl rfl cs hnops heops hbody hpost hops h22 h23 h24 (by simpa using hk22) (by simpa using hk23) (ib:=w1.heap.size) (mb:=mb) hstm hS1.inv.size (b0:=b0) (b1:=b1) (rid7:=r7) (rid8:=r8) rfl
       en.length en _ _ _ hall _ _ a2 #[] clock hS2 (fun l' hl'=>by
        simp only [upd,if_true,Option.some.injEq] at hl'
        subst hl'
        exact ⟨rfl,rfl,rfl⟩) (.inr rfl) (.inl (.inr rfl)) (by rw [alloc_heap]) (Nat.le_refl _) (by rw [Below.heap_alloc w1 _ mb hmblt];exact hmb) (by
        have:(leftOf es #[]).toList=es.toList:=by
         unfold leftOf
         rw [Array.toList_filter,List.filter_eq_self]
         intro x _;simp
        rw [this];exact hen2.mono hle)
      refine EndM.step ?_ hend
      exact Steps.trans (.one stepR_seq) (Steps.trans (.one stepR_seq) (Steps.trans (hst6 _) (Steps.trans (.one stepR_block) (.one stepR_loop))))
     ·simp at hok2
    ·cases h
  ·simp at hok
 ·simp at hok
end
end Go.FI
namespace Go.FI
open Go.RowKit
variable [Sys]
section
variable {P:Program} {B:Nat} {w0:World} {g g':Gh} {w w':World} {h h':Heap} {m:Tm} {a:Act} {nt:Nat} {cm:Nat→Nat}
theorem stable_call (T:Tab) (n:Nat):Stable (call T n) (cmOf T):=by
 intro f hf args h nx v h1 nx1 hc
 cases n with
 |zero=>simp [call] at hc
 |succ n =>
  simp only [call] at hc ⊢
  cases hT:tget T f with
  |none=>rw [hT] at hc;simp at hc
  |some q =>
   rw [hT] at hc
   cases q with
   |rd d=>simp [cmOf,hT] at hf
   |ct c =>
    simp only at hc ⊢
    obtain ⟨hlt,hc⟩:=chk_some hc
    simp only [enterC] at hc ⊢
    obtain ⟨k1,hc⟩:=chk_some hc
    obtain ⟨x,k2,hc⟩:=bnd_some hc
    obtain ⟨u,k3,hc⟩:=bnd_some hc
    obtain ⟨r,k4,hc⟩:=bnd_some hc
    simp only [Option.some.injEq,Prod.mk.injEq] at hc
    obtain ⟨rfl,rfl,rfl⟩:=hc
    exact ⟨rfl,rfl,fun h' nx' _=>by simp [chk,bnd,hlt,k1,k2,k3,k4]⟩
   |mr d =>
    simp only at hc ⊢
    obtain ⟨hlt,hc⟩:=chk_some hc
    unfold enterM at hc ⊢
    obtain ⟨r,k1,k2⟩:=bnd_some hc
    simp only [Option.some.injEq,Prod.mk.injEq] at k2
    obtain ⟨rfl,rfl,rfl⟩:=k2
    exact ⟨rfl,rfl,fun h' nx' _=>by simp [chk,bnd,hlt,k1]⟩
   |ext gg =>
    simp only at hc ⊢
    obtain ⟨k1,hc⟩:=chk_some hc
    obtain ⟨as,k0,hc⟩:=bnd_some hc
    obtain ⟨u,k2,hc⟩:=bnd_some hc
    obtain ⟨k3,hc⟩:=chk_some hc
    simp only [Option.some.injEq,Prod.mk.injEq] at hc
    obtain ⟨rfl,rfl,rfl⟩:=hc
    refine ⟨rfl,rfl,fun h' nx' hs=>?_⟩
    have hs:=hs.resolve_left (by simp [cmOf,hT])
    simp [chk,bnd,k1,(frz_sub hs deep).2 _ _ k0,k2,k3]
   |fn d =>
    simp only at hc ⊢
    obtain ⟨hlt,hc⟩:=chk_some hc
    simp only [enter] at hc ⊢
    obtain ⟨hnp,hc⟩:=chk_some hc
    cases hm:d.mode with
    |shr=>simp [cmOf,hT,hm] at hf
    |isc=>simp [cmOf,hT,hm] at hf
    |iso =>
     rw [hm] at hc
     simp only at hc
     obtain ⟨k1,hc⟩:=chk_some hc
     obtain ⟨x,k2,hc⟩:=bnd_some hc
     obtain ⟨u,k3,hc⟩:=bnd_some hc
     obtain ⟨r,k4,hc⟩:=bnd_some hc
     simp only [Option.some.injEq,Prod.mk.injEq] at hc
     obtain ⟨rfl,rfl,rfl⟩:=hc
     exact ⟨rfl,rfl,fun h' nx' _=>by simp [chk,bnd,hlt,hnp,k1,k2,k3,k4]⟩
    |isf =>
     rw [hm] at hc
     simp only at hc
     obtain ⟨as,k1,hc⟩:=bnd_some hc
     obtain ⟨x,k2,hc⟩:=bnd_some hc
     obtain ⟨u,k3,hc⟩:=bnd_some hc
     obtain ⟨k4,hc⟩:=chk_some hc
     simp only [Option.some.injEq,Prod.mk.injEq] at hc
     obtain ⟨rfl,rfl,rfl⟩:=hc
     refine ⟨rfl,rfl,fun h' nx' hs=>?_⟩
     have hs:=hs.resolve_left (by simp [cmOf,hT,hm])
     simp [chk,bnd,hlt,hnp,(frz_sub hs deep).2 _ _ k1,k2,k3,k4]
theorem Stable.np {cal:Call} {cm:Nat→Nat} (h:Stable cal cm):Stable (FI.np cal) cm:=by
 intro f hf args hh nx v h1 nx1 hc
 obtain ⟨k1,k2⟩:=np_some hc
 obtain ⟨e1,e2,e3⟩:=h f hf args hh nx v h1 nx1 k1
 refine ⟨e1,e2,fun h' nx' hs=>?_⟩
 unfold FI.np
 rw [e3 h' nx' hs]
 simp [bnd,chk,k2]
theorem gt_append:∀ (a b:Tm) (t:Nat),gt (a ++ b) t=if (a.map (·.1)).contains t then gt a t else gt b t:=by
 intro a b t
 induction a with
 |nil=>simp [gt]
 |cons p a ih =>
  obtain ⟨i,v⟩:=p
  simp only [List.cons_append,gt,List.map_cons,List.contains_cons]
  by_cases e:i=t
  ·subst e;simp
  ·have e2:(t == i)=false:=by simpa using fun x=>e (Eq.symm x)
   rw [if_neg e,if_neg e,e2,Bool.false_or]
   exact ih
theorem zipTm_keys:∀ (ts:List Nat) (vs:List FV),vs.length=ts.length→(zipTm ts vs).map (·.1)=ts
 |[],[],_=>rfl
 |[],_::_,_=>rfl
 |_::_,[],h=>by simp at h
 |t::ts,v::vs,h=>by simp only [zipTm,List.map_cons,zipTm_keys ts vs (by simpa using h)]
theorem gt_zipTm:∀ (ts:List Nat) (vs:List FV) (xs:List Value) (b:Array Value) (t:Nat),RL g w vs xs→vs.length=ts.length→ts.Nodup→(∀ t ∈ ts,t < b.size) →
  (t ∈ ts→R g w (gt (zipTm ts vs) t) (((ts.zip xs).foldl (fun tmps (p:Nat × Value)=>tmps.setIfInBounds p.1 p.2) b).getD t undef)) ∧
  (t ∉ ts→((ts.zip xs).foldl (fun tmps (p:Nat × Value)=>tmps.setIfInBounds p.1 p.2) b).getD t undef=b.getD t undef):=by
 intro ts
 induction ts with
 |nil=>intro vs xs b t _ _ _ _;exact ⟨fun h=>by simp at h,fun _=>rfl⟩
 |cons i ts ih =>
  intro vs xs b t hr hl hn hlt
  cases vs with
  |nil=>simp at hl
  |cons v vs =>
   cases hr with
   |cons _ x _ xs hr hs =>
    have hn':=List.nodup_cons.1 hn
    obtain ⟨h1,h2⟩:=ih vs xs (b.setIfInBounds i x) t hs (by simpa using hl) hn'.2 (fun t ht=>by simpa using hlt t (List.mem_cons_of_mem _ ht))
    simp only [List.zip_cons_cons,List.foldl_cons,zipTm,gt]
    have hi:i < b.size:=hlt i (by simp)
    refine ⟨fun hm=>?_,fun hm=>?_⟩
    ·by_cases e:i=t
     ·subst e
      rw [if_pos rfl,h2 hn'.1]
      simpa [Array.getD,hi] using hr
     ·rw [if_neg e]
      exact h1 ((List.mem_cons.1 hm).resolve_left fun x=>e x.symm)
    ·have e:¬ t=i:=fun e=>hm (by simp [e])
     have e2:¬ i=t:=fun x=>e x.symm
     rw [h2 (fun h=>hm (List.mem_cons_of_mem _ h))]
     simp only [Array.getD_eq_getD_getElem?,Array.getElem?_setIfInBounds_ne e2]
theorem RL_gt:∀ (ts:List Nat) (vs:List FV) (b:Array Value) (t:Nat),RL g w vs (ts.map fun t=>b.getD t undef)→vs.length=ts.length→R g w (gt (zipTm ts vs) t) (b.getD t undef):=by
 intro ts
 induction ts with
 |nil=>intro vs b t _ _;cases vs<;>exact .undef _
 |cons i ts ih =>
  intro vs b t hr hl
  cases vs with
  |nil=>simp at hl
  |cons v vs =>
   cases hr with
   |cons _ _ _ _ hr hs =>
    simp only [zipTm,gt]
    by_cases e:i=t
    ·subst e;rw [if_pos rfl];exact hr
    ·rw [if_neg e];exact ih vs b t hs (by simpa using hl)
theorem RT_round {ps ct:List Nat} {vs caps:List FV} {xs:List Value} {tmps:Array Value} {params:Array Nat} (hok:okPs tmps.size ps ct=true) (hps:params.toList=ps) (hx:RL g w vs xs) (hl:vs.length=ps.length) (hc:RL g w caps (ct.map fun t=>tmps.getD t undef)) (hl2:caps.length=ct.length) (hgl:GlOk g w) :
  RT g w (zipTm ps vs ++ zipTm ct caps) ⟨(params.zip xs.toArray).foldl (fun tmps (t,a)=>tmps.setIfInBounds t a) tmps,[]⟩:=by
 refine ⟨fun t=>?_,hgl⟩
 simp only [okPs,Bool.and_eq_true,decide_eq_true_eq,List.all_eq_true] at hok
 obtain ⟨h1,h2⟩:=hok
 rw [List.nodup_append] at h1
 obtain ⟨g1,g2⟩:=gt_zipTm ps vs xs tmps t hx hl h1.1 (fun t ht=>h2 t (by simp [ht]))
 have e:(params.zip xs.toArray).foldl (fun tmps (t,a)=>tmps.setIfInBounds t a) tmps=(ps.zip xs).foldl (fun tmps (p:Nat × Value)=>tmps.setIfInBounds p.1 p.2) tmps:=by
  rw [← Array.foldl_toList,Array.toList_zip,hps]
 simp only [e,gt_append,zipTm_keys ps vs hl,List.contains_iff_mem]
 by_cases ht:t ∈ ps
 ·rw [if_pos ht];exact g1 ht
 ·rw [if_neg ht,g2 ht];exact RL_gt ct caps tmps t hc hl2
theorem round_sound {rdO : Nat → Option Rd} (hrk : ∀ f r ct, RkOf P cm rdO f r ct ↔ Sys.rk f r ct) {cal : Call} (hcal : CalOkP P cal) (hst : Stable (np cal) cm) (hmix : P.follows .mixedOrders = true) {n f id : Nat} {d : Rd} (hd : rdO f = some d) {caps args : List FV} {nx nx' : Nat} {v : FV}
    (hr : round cal n d (.yl f id caps :: args) h nx = some (v, h', nx')) (hf : Fresh h nx) {y : Value} {xs : List Value} (hI : Inv B w0 g h w) (hgl : GlOk g w) (hy : R g w (.yl f id caps) y) (hx : RL g w args xs) :
    ∃ b fn tmps as bo, y = .func (.yield b) #[] #[] ∧ (Instr.yield b xs.toArray).run P w = .ok (.round b fn tmps as bo) w ∧
        RoundW P b fn tmps as bo w fun e w' => ∃ x g', e = .returned x ∧ R g' w' v x ∧ Nx B w0 g g' h' w w' ∧ KNew g g' h h' (fun i => nx ≤ i ∧ i < nx') := by
  simp only [round] at hr
  obtain ⟨⟨hl1, hl2, hlp⟩, hr⟩ := chk_some hr
  obtain ⟨⟨ex, m', h1, nx1⟩, k1, k2⟩ := bnd_some hr
  cases hy with | yl _ _ _ l b r ct hge hk hm hb hq hrkf hc =>
  obtain ⟨d', e1, e2, e3, e4, e5, e6⟩ := (hrk _ _ _).2 hrkf
  rw [hd] at e1; cases e1
  subst e2
  unfold isLp at hlp
  split at hlp
  · rename_i st jp hg
    have ho : LpOk w l st jp := hI.obj id _ l hg hk
    obtain ⟨_, bb, rr, p1, p2, p3⟩ := ho
    rw [hb] at p1; cases p1
    rw [hq] at p2; cases p2
    have hidlt : id < nx := by
      rcases Nat.lt_or_ge id nx with h | h
      · exact h
      · rw [hf id h] at hg; cases hg
    have hyl := run_yield (P := P) (args := xs.toArray) p3 (by
      have := hx.length
      have e : r.params.size = d.ps.length := by rw [← e3]; simp
      simp only [List.size_toArray, e]; omega)
    simp only at hyl
    refine ⟨b, _, _, _, _, rfl, hyl, fun c cs => ?_⟩
    let bf : Frame := { (default : Frame) with fn := r.fn, kind := .normal, roundOf := some b }
    have hb0 : ∀ tmps, Frame.round b r.fn tmps r.assign r.body .normal = bf.atR { tmps := tmps, defers := [] } [.code r.assign, .beginRound, .code r.body] := fun tmps => by
      simp [Frame.round, Frame.atR, bf]
    have hsz : ∀ (l : List (Nat × Value)) (t : Array Value), (l.foldl (fun tmps (p : Nat × Value) => tmps.setIfInBounds p.1 p.2) t).size = t.size := by
      intro l
      induction l with
      | nil => intro t; rfl
      | cons p l ih => intro t; simp only [List.foldl_cons, ih, Array.size_setIfInBounds]
    have hRT := RT_round (g := g) (w := w) e4 e3 hx hl1 hc hl2 hgl
    obtain ⟨⟨q1, q3, q4⟩, q2⟩ := run_sound (nt := r.tmps.size) (B := B) (w0 := w0) (fun f r ct => (hrk f r ct).1) hcal hst hmix n _ _ _ _ _ _ _ _ k1 _ nx (.code r.assign d.asg _ _ e5 (.beg id _ _ (.code r.body d.body [] [] e6 .nil))) (fun b c hm => by simp at hm) (Nat.le_refl _) hf
    obtain ⟨g', a', w', K', ms, fr0, r1, r2, r3, r4, r5, r5', r6, r7⟩ := q2 g w _ bf (c :: cs) (fun q hq2 => by cases hq2; exact ⟨id, l, r, hidlt, hk, hb, hm, hq⟩) (fun i hm' => by
      simp at hm'
      subst hm'
      exact ⟨hidlt, b, l, rfl, hk, hb, hm⟩) hRT (by
        show ((r.params.zip xs.toArray).foldl (fun tmps (t, a) => tmps.setIfInBounds t a) r.tmps).size = _
        have e : (r.params.zip xs.toArray).foldl (fun tmps (t, a) => tmps.setIfInBounds t a) r.tmps = (d.ps.zip xs).foldl (fun tmps (p : Nat × Value) => tmps.setIfInBounds p.1 p.2) r.tmps := by
          rw [← Array.foldl_toList, Array.toList_zip, e3]
        rw [e, hsz]) hI
    rw [gcut_fresh hI hf] at r6
    rw [← hb0] at r1
    have r7 : KNew g g' h h1 (fun i => nx ≤ i ∧ i < nx1) := fun i hi hk => by
      by_cases h1 : nx ≤ i
      · have h2 : nx1 ≤ i := by
          rcases Nat.lt_or_ge i nx1 with h3 | h3
          · exact absurd ⟨h1, h3⟩ hi
          · exact h3
        exact ⟨kNone r6.inv (q3 i h2), by rw [q3 i h2, hf i h1]⟩
      · exact r7 i h1 hk
    obtain ⟨l', hk', _, _, hl'⟩ := r6.le.k id l hk
    have := hl' (.inr hm); subst this
    simp only [leave] at k2
    split at k2
    · rename_i st1 jp1 hg1
      have fin : ∀ (st' jp' : Nat) (jump : Option Code) (t : Bool), h' = hset h1 id (.lp st' jp') → nx' = nx1 → v = .bool t → jump.isNone = t → jpO jp' = jump → stO st' = (if jump.isNone then .ready else .done) →
          fr0 = bf.atR a' K' → (∀ (vv : Value) (ww : World), (Instr.endRound b jump).run P w' = .ok vv ww → step P (lone (bf.atR a' K') (c :: cs) w') = .next (lone (c.finish vv) cs ww)) →
          ∃ e w'', (∃ x g', e = .returned x ∧ R g' w'' v x ∧ Nx B w0 g g' h' w w'' ∧ KNew g g' h h' (fun i => nx ≤ i ∧ i < nx')) ∧ Comes P (lone (Frame.round b r.fn ((r.params.zip xs.toArray).foldl (fun tmps (t, a) => tmps.setIfInBounds t a) r.tmps) r.assign r.body .normal) (c :: cs) w)
            (match e with
             | .returned v => lone (c.finish v) cs w''
             | .panicked chain => lone (c.raise chain) cs w''
             | .outgrown => lone c cs w'') e := by
        rintro st' jp' jump t rfl rfl rfl rfl hjp hst' rfl hstep
        obtain ⟨bq, rq, z1, z2, z3, z4, z5, z6, z7⟩ := write_loop r6.inv hg1 hk' st' jp'
        rw [hb] at z1; cases z1
        rw [hq] at z2; cases z2
        have hend := run_endRound (P := P) jump z4
        have hs := hstep _ _ hend
        rw [hst', hjp] at z6 z7
        refine ⟨.returned (.bool jump.isNone), _, ⟨_, g', rfl, .bool _, ⟨z6, r6.le.trans z7, r6.z, by simpa using r6.sz⟩, fun i hi hki => ?_⟩, Steps.trans r1 (.one hs)⟩
        obtain ⟨y1, y2⟩ := r7 i hi hki
        refine ⟨y1, ?_⟩
        rw [hget_hset hg1, y2]
        split
        · rename_i e; subst e; rw [hk] at hki; cases hki
        · rfl
      cases ex with
      | fin =>
        simp only [Option.some.injEq, Prod.mk.injEq] at k2
        obtain ⟨v1, v2, v3⟩ := k2
        obtain ⟨e, e2⟩ := r2
        subst e
        exact fin 0 0 none true v2.symm v3.symm v1.symm rfl rfl rfl e2 fun vv ww hh => stepR_round_end rfl rfl hh
      | ret =>
        simp only [Option.some.injEq, Prod.mk.injEq] at k2
        obtain ⟨v1, v2, v3⟩ := k2
        obtain ⟨⟨k, rfl⟩, e2⟩ := r2
        exact fin 2 1 (some .ret) false v2.symm v3.symm v1.symm rfl rfl rfl e2 fun vv ww hh => stepR_round_ret rfl rfl hh
      | xt e =>
        simp only [Option.some.injEq, Prod.mk.injEq] at k2
        obtain ⟨v1, v2, v3⟩ := k2
        obtain ⟨⟨k, rfl, hx2⟩, e2⟩ := r2
        exact fin 2 (e + 2) (some (.exit e)) false v2.symm v3.symm v1.symm rfl rfl rfl e2 fun vv ww hh => stepR_round_exit rfl rfl hx2 hh
      | pan u => simp at k2
    · simp at k2
  · simp at hlp
theorem ropsD_new {cal:Call} (hcalP:CalOkP P cal) {c:Nat} {gs:List G} {nx nx1:Nat} {p:Option FV} {m1:Tm} {h1:Heap} (hr:ropsD cal nx c gs m h (nx + gs.length)=some (p,m1,h1,nx1)) (hf:Fresh h nx):New h h1 nx nx1:=by
 unfold ropsD at hr
 obtain ⟨⟨m2,h2,nx2⟩,k1,hr⟩:=bnd_some hr
 have hl1:(gs.take c).length ≤ gs.length:=by simp;omega
 obtain ⟨a1,a2⟩:=rops_new hcalP.np (gs.take c) nx m h (nx + gs.length) m2 h2 nx2 (fun j hj _=>hf j hj) (by omega) (fun i hi=>hf i (by omega)) k1
 have hf2:Fresh h2 nx2:=fun i hi=>a2 i (hf i (by omega)) (by omega) (.inr hi)
 simp only at hr
 split at hr
 ·obtain ⟨⟨v,h3,nx3⟩,k2,hr⟩:=bnd_some hr
  have hnew:=hcalP.new _ _ _ _ _ _ _ k2 hf2
  simp only at hr
  split at hr
  ·simp only [Option.some.injEq,Prod.mk.injEq] at hr
   obtain ⟨_,rfl,rfl,rfl⟩:=hr
   exact ⟨by have:=hnew.1;omega,fun i hi hc=>by
    rcases hc with hc | hc
    ·exact hnew.2 i (a2 i hi (by omega) (by omega)) (.inl (by omega))
    ·exact hnew.fresh hf2 i hc⟩
  ·obtain ⟨⟨m4,h4,nx4⟩,k3,hr⟩:=bnd_some hr
   simp only [Option.some.injEq,Prod.mk.injEq] at hr
   obtain ⟨_,rfl,rfl,rfl⟩:=hr
   have k3:=(rechk_some k3).1
   by_cases hc:c < gs.length
   ·have hl2:(gs.drop (c + 1)).length=gs.length - (c + 1):=by simp
    have hl3:(gs.take c).length=c:=by simp;omega
    have hn3:∀ j,nx + c + 1 ≤ j→j < nx + c + 1 + (gs.drop (c + 1)).length→hget h3 j=none:=fun j hj hj'=>hnew.2 j (a2 j (hf j (by omega)) (by omega) (.inl (by omega))) (.inl (by omega))
    have hf3:Fresh h3 nx3:=hnew.fresh hf2
    obtain ⟨b1,b2⟩:=rops_new hcalP.np (gs.drop (c + 1)) (nx + c + 1) _ h3 nx3 _ _ _ hn3 (by have:=hnew.1;omega) hf3 k3
    exact ⟨by have:=hnew.1;omega,fun i hi hcc=>by
     rcases hcc with hcc | hcc
     ·exact b2 i (hnew.2 i (a2 i hi (by omega) (by omega)) (.inl (by omega))) (by omega) (.inl (by have:=hnew.1;omega))
     ·exact b2 i (hf3 i (by omega)) (by have:=hnew.1;omega) (.inr hcc)⟩
   ·have e:gs.drop (c + 1)=[]:=List.drop_eq_nil_of_le (by omega)
    rw [e] at k3
    simp only [rops,Option.some.injEq,Prod.mk.injEq] at k3
    obtain ⟨_,rfl,rfl⟩:=k3
    exact ⟨by have:=hnew.1;omega,fun i hi hcc=>by
     rcases hcc with hcc | hcc
     ·exact hnew.2 i (a2 i hi (by omega) (by omega)) (.inl (by omega))
     ·exact hnew.fresh hf2 i hcc⟩
 ·simp at hr
theorem run_new {cal:Call} (hcalP:CalOkP P cal):∀ (n:Nat) (todo:List I) (m:Tm) (h:Heap) (nx:Nat) (ex:Ex) (m':Tm) (h':Heap) (nx':Nat),run cal n todo m h nx=some (ex,m',h',nx') →
  ∀ β,Base β todo→β ≤ nx→Fresh h nx→(β ≤ nx'∧Fresh h' nx'∧∀ i < β,hget h i=none→hget h' i=none):=by
 have hcal:=hcalP.np
 intro n
 induction n with
 |zero=>intro todo m h nx ex m' h' nx' hr;simp [run] at hr
 |succ n ih =>
  intro todo m h nx ex m' h' nx' hr β hB hβ hf
  cases todo with
  |nil =>
   simp only [run,Option.some.injEq,Prod.mk.injEq] at hr
   obtain ⟨rfl,rfl,rfl,rfl⟩:=hr
   exact ⟨hβ,hf,fun _ _ h=>h⟩
  |cons t l =>
   cases t with
   |inB id =>
    simp only [run] at hr
    exact ih _ _ _ _ _ _ _ _ hr β (fun b c hm=>hB b c (by simp [hm])) hβ hf
   |inS c =>
    simp only [run] at hr
    exact ih _ _ _ _ _ _ _ _ hr β (fun b c hm=>hB b c (by simp [hm])) hβ hf
   |beg id =>
    simp only [run] at hr
    split at hr
    ·rename_i jp hg
     obtain ⟨q1,q3,q4⟩:=ih _ _ _ _ _ _ _ _ hr β (fun b c hm=>hB b c (by simp [hm])) hβ (fun i hi=>hset_none hg i (hf i hi))
     exact ⟨q1,q3,fun i hi hn=>q4 i hi (hset_none hg i hn)⟩
    ·simp at hr
   |inL t d =>
    cases t with
    |none =>
     simp only [run] at hr
     exact ih _ _ _ _ _ _ _ _ hr β (fun b c hm=>hB b c (by simpa using hm)) hβ hf
    |some bb =>
     simp only [run] at hr
     obtain ⟨⟨c1,c2,c3⟩,hr⟩:=chk_some hr
     have hbb:β ≤ bb:=hB bb d (by simp)
     obtain ⟨h1,h2,h3⟩:=ih _ _ _ _ _ _ _ _ hr β (fun b c hm=>hB b c (by simpa using hm)) hbb (fun i hi=>by rw [hget_cutH,if_neg (by omega)])
     exact ⟨h1,h2,fun i hi hn=>h3 i hi (by rw [hget_cutH];split;exact hn;rfl)⟩
   |code d =>
    cases d with
    |bad=>simp only [run] at hr;cases hr
    |sk =>
     simp only [run] at hr
     exact ih _ _ _ _ _ _ _ _ hr β (fun b c hm=>hB b c (by simp [hm])) hβ hf
    |lb t =>
     simp only [run] at hr
     exact ih _ _ _ _ _ _ _ _ hr β (fun b c hm=>hB b c (by simp [hm])) hβ hf
    |sc x =>
     simp only [run] at hr
     exact ih _ _ _ _ _ _ _ _ hr β (fun b c hm=>hB b c (by simpa using hm)) hβ hf
    |go t =>
     simp only [run] at hr
     split at hr
     ·rename_i l' hl
      exact ih _ _ _ _ _ _ _ _ hr β (fun b c hm=>by
       rcases go_mem _ _ _ hl _ hm with ⟨_,e⟩ | e
       ·cases e
       ·exact hB b c (List.mem_cons_of_mem _ e)) hβ hf
     ·simp at hr
    |rf f x ct =>
     simp only [run] at hr
     split at hr
     ·rename_i q caps hx
      obtain ⟨⟨v,h2,nx2⟩,k1,hr⟩:=bnd_some hr
      simp only at hr
      split at hr
      ·rename_i st jp hg2
       obtain ⟨hne,hr⟩:=chk_some hr
       have hfr1:Fresh ((nx,.lp 0 0)::h) (nx + 1):=fun i hi=>by rw [hget_cons,if_neg (by omega)];exact hf i (by omega)
       have hnew:=hcal.new _ _ _ _ _ _ _ k1 hfr1
       have hfr2:Fresh (hset h2 nx (.lp 3 jp)) nx2:=fun i hi=>hset_none hg2 i (hnew.fresh hfr1 i hi)
       have hold:∀ i < β,hget h i=none→hget (hset h2 nx (.lp 3 jp)) i=none:=fun i hi hn=>hset_none hg2 i (hnew.2 i (by rw [hget_cons,if_neg (by omega)];exact hn) (.inl (by omega)))
       have hβ2:β ≤ nx2:=by have:=hnew.1;omega
       split at hr
       ·obtain ⟨q1,q3,q4⟩:=ih _ _ _ _ _ _ _ _ hr β (fun b c hm=>hB b c (by simp [hm])) hβ2 hfr2
        exact ⟨q1,q3,fun i hi hn=>q4 i hi (hold i hi hn)⟩
       ·obtain ⟨q1,q3,q4⟩:=ih _ _ _ _ _ _ _ _ hr β (fun b c hm=>hB b c (by simpa using hm)) hβ2 hfr2
        exact ⟨q1,q3,fun i hi hn=>q4 i hi (hold i hi hn)⟩
       ·obtain ⟨q1,q3,q4⟩:=ih _ _ _ _ _ _ _ _ hr β (fun b c hm=>hB b c (by simpa using hm)) hβ2 hfr2
        exact ⟨q1,q3,fun i hi hn=>q4 i hi (hold i hi hn)⟩
      ·simp at hr
     ·simp at hr
    |rg d gs keep =>
     simp only [run] at hr
     obtain ⟨⟨m1,h1,nx1⟩,k1,hr⟩:=bnd_some hr
     simp only at hr
     have hn:∀ j,nx ≤ j→j < nx + gs.length→hget h j=none:=fun j hj _=>hf j hj
     obtain ⟨e1,e2⟩:=rops_new hcal gs nx m h (nx + gs.length) m1 h1 nx1 hn (Nat.le_refl _) (fun i hi=>hf i (by omega)) k1
     have hnew1:New h h1 nx nx1:=⟨by omega,fun i hi hc=>e2 i hi (by omega) (by omega)⟩
     obtain ⟨q1,q3,q4⟩:=ih _ _ _ _ _ _ _ _ hr β (fun b c hm=>hB b c (by simp [hm])) (by omega) (hnew1.fresh hf:Fresh h1 nx1)
     exact ⟨q1,q3,fun i hi hn=>q4 i hi (hnew1.2 i hn (.inl (by omega)))⟩
    |rp pm c0 kp gs keep =>
     simp only [run] at hr
     obtain ⟨⟨p1,m1,h1,nx1⟩,k1,hr⟩:=bnd_some hr
     simp only at hr
     have hnew1:New h h1 nx nx1:=ropsD_new hcalP k1 hf
     cases p1 with
     |none =>
      obtain ⟨q1,q3,q4⟩:=ih _ _ _ _ _ _ _ _ hr β (fun b c hm=>hB b c (by simp [hm])) (by have:=hnew1.1;omega) (hnew1.fresh hf:Fresh h1 nx1)
      exact ⟨q1,q3,fun i hi hn=>q4 i hi (hnew1.2 i hn (.inl (by omega)))⟩
     |some u =>
      simp only [Option.some.injEq,Prod.mk.injEq] at hr
      obtain ⟨rfl,rfl,rfl,rfl⟩:=hr
      exact ⟨by have:=hnew1.1;omega,hnew1.fresh hf,fun i hi hn=>hnew1.2 i hn (.inl (by omega))⟩
    |rq gs keep =>
     simp only [run] at hr
     obtain ⟨⟨p1,m1,h1,nx1⟩,k1,hr⟩:=bnd_some hr
     simp only at hr
     have hn:∀ j,nx ≤ j→j < nx + gs.length→hget h j=none:=fun j hj _=>hf j hj
     obtain ⟨e1,e2⟩:=ropsP_new hcalP gs nx m h (nx + gs.length) p1 m1 h1 nx1 hn (Nat.le_refl _) (fun i hi=>hf i (by omega)) k1
     have hnew1:New h h1 nx nx1:=⟨by omega,fun i hi hc=>e2 i hi (by omega) (by omega)⟩
     cases p1 with
     |none =>
      obtain ⟨q1,q3,q4⟩:=ih _ _ _ _ _ _ _ _ hr β (fun b c hm=>hB b c (by simp [hm])) (by omega) (hnew1.fresh hf:Fresh h1 nx1)
      exact ⟨q1,q3,fun i hi hn=>q4 i hi (hnew1.2 i hn (.inl (by omega)))⟩
     |some u =>
      simp only [Option.some.injEq,Prod.mk.injEq] at hr
      obtain ⟨rfl,rfl,rfl,rfl⟩:=hr
      exact ⟨by omega,hnew1.fresh hf,fun i hi hn=>hnew1.2 i hn (.inl (by omega))⟩
    |sq x y =>
     simp only [run] at hr
     exact ih _ _ _ _ _ _ _ _ hr β (fun b c hm=>hB b c (by simpa using hm)) hβ hf
    |cd x y z =>
     simp only [run] at hr
     split at hr
     ·split at hr
      ·exact ih _ _ _ _ _ _ _ _ hr β (fun b c hm=>hB b c (by simpa using hm)) hβ hf
      ·exact ih _ _ _ _ _ _ _ _ hr β (fun b c hm=>hB b c (by simpa using hm)) hβ hf
     ·simp at hr
    |bl id x =>
     simp only [run] at hr
     exact ih _ _ _ _ _ _ _ _ hr β (fun b c hm=>hB b c (by simpa using hm)) hβ hf
    |lp tr x =>
     simp only [run] at hr
     exact ih _ _ _ _ _ _ _ _ hr β (fun b c hm=>by
      simp only [List.mem_cons,reduceCtorEq,false_or] at hm
      rcases hm with hm | hm
      ·cases tr
       ·simp at hm
       ·simp at hm;omega
      ·exact hB b c (by simp [hm])) hβ hf
    |xt id =>
     simp only [run] at hr
     split at hr
     ·rename_i l' hl
      exact ih _ _ _ _ _ _ _ _ hr β (fun b c hm=>hB b c (List.mem_cons_of_mem _ (exit_mem _ _ _ hl _ hm))) hβ hf
     ·simp only [Option.some.injEq,Prod.mk.injEq] at hr
      obtain ⟨rfl,rfl,rfl,rfl⟩:=hr
      exact ⟨hβ,hf,fun _ _ h=>h⟩
    |rt =>
     simp only [run,Option.some.injEq,Prod.mk.injEq] at hr
     obtain ⟨rfl,rfl,rfl,rfl⟩:=hr
     exact ⟨hβ,hf,fun _ _ h=>h⟩
theorem round_new {cal:Call} (hcal:CalOkP P cal) {n:Nat} {d:Rd} {args:List FV} {nx nx':Nat} {v:FV} (hr:round cal n d args h nx=some (v,h',nx')) (hf:Fresh h nx):New h h' nx nx':=by
 unfold round at hr
 split at hr
 ·rename_i f id caps xs
  obtain ⟨_,hr⟩:=chk_some hr
  obtain ⟨⟨ex,m',h1,nx1⟩,k1,k2⟩:=bnd_some hr
  obtain ⟨q1,q3,q4⟩:=run_new hcal n _ _ _ _ _ _ _ _ k1 nx (fun b c hm=>by simp at hm) (Nat.le_refl _) hf
  have base:New h h1 nx nx1:=⟨q1,fun i hi hc=>by rcases hc with hc | hc;exact q4 i hc hi;exact q3 i hc⟩
  simp only [leave] at k2
  split at k2
  ·rename_i hg
   have fin:∀ ob,New h (hset h1 id ob) nx nx1:=fun ob=>⟨base.1,fun i hi hc=>hset_none hg i (base.2 i hi hc)⟩
   split at k2<;>simp only [Option.some.injEq,Prod.mk.injEq,reduceCtorEq] at k2<;>obtain ⟨_,rfl,rfl⟩:=k2<;>exact fin _
  ·simp at k2
 ·simp at hr
theorem calOk_call {T:Tab} (hT:TabOk P T):∀ n,CalOkP P (call T n):=by
 intro n
 induction n with
 |zero=>exact ⟨fun f args h nx v h' nx' hc=>by simp [call] at hc,fun f args h nx v h' nx' hc=>by simp [call] at hc,fun f id caps args h nx v h' nx' hc=>by simp [call] at hc,fun f args h nx v h' nx' hc=>by simp [call] at hc⟩
 |succ n ih =>
  have hrk:=fun f r ct=>(hT.rk f r ct).2
  have hst:=(stable_call T n).np
  have entry:∀ {f d},okFn P (cmOf T) (rdOf T) f d=true→entered P f=true:=fun {f d} hok=>by
   unfold okFn at hok
   unfold entered
   split at hok
   ·rename_i fn hfn
    cases hb:fn.body with
    |none=>rw [hb] at hok;simp at hok
    |some c =>
     rw [hb] at hok
     simp only [Bool.and_eq_true,Bool.not_eq_true'] at hok
     simp only [hfn,hb,Option.isSome,Bool.true_and,hok.2,Bool.not_false]
   ·simp at hok
  refine ⟨?_,?_,?_,?_⟩
  ·intro f args h nx v h' nx' hc hf
   simp only [call] at hc
   cases ht:tget T f with
   |none=>rw [ht] at hc;simp at hc
   |some q =>
    rw [ht] at hc
    cases q with
    |ext gg =>
     simp only at hc
     obtain ⟨k1,hc⟩:=chk_some hc
     obtain ⟨as,k0,hc⟩:=bnd_some hc
     obtain ⟨u,k2,hc⟩:=bnd_some hc
     obtain ⟨k3,hc⟩:=chk_some hc
     simp only [Option.some.injEq,Prod.mk.injEq] at hc
     obtain ⟨rfl,rfl,rfl⟩:=hc
     exact .refl _ _
    |rd d =>
     simp only at hc
     obtain ⟨k1,hc⟩:=chk_some hc
     exact round_new ih hc hf
    |ct c =>
     simp only at hc
     obtain ⟨hlt,hc⟩:=chk_some hc
     obtain ⟨e1,rfl,rfl,e2,e3⟩:=enter_ct hrk ih hst hT.mix (hT.ct f c ht) hc
     exact .refl _ _
    |mr d =>
     simp only at hc
     obtain ⟨hlt,hc⟩:=chk_some hc
     obtain ⟨e1,rfl,rfl,e2,e3⟩:=enter_mr hrk ih hst hT.mix (hT.mr f d ht) hc
     exact .refl _ _
    |fn d =>
     simp only at hc
     obtain ⟨hlt,hc⟩:=chk_some hc
     have hok:=hT.fn f d ht
     cases hm:d.mode with
     |iso =>
      obtain ⟨e1,rfl,rfl,e2,e3⟩:=enter_iso hrk ih hst hT.mix hok hm hc
      exact .refl _ _
     |isf =>
      obtain ⟨e1,rfl,rfl,e3⟩:=enter_isf hrk ih hst hT.mix hok hm hc
      exact .refl _ _
     |isc =>
      obtain ⟨e1,rfl,rfl,e3⟩:=enter_isc hrk ih hst hT.mix hok hm hc
      exact ⟨Nat.le_refl _,fun i hi _=>froze_none _ _ hi⟩
     |shr =>
      unfold enter at hc
      obtain ⟨hnp,hc⟩:=chk_some hc
      rw [hm] at hc
      simp only at hc
      obtain ⟨x,k1,hc⟩:=bnd_some hc
      obtain ⟨u,k2,hc⟩:=bnd_some hc
      simp only [Option.some.injEq,Prod.mk.injEq] at hc
      obtain ⟨rfl,rfl,rfl⟩:=hc
      exact (body_sound hrk ih hst hT.mix hok hnp k1 k2 hf).2.1
  ·intro f args h nx v h' nx' hc hlt0
   simp only [call] at hc
   cases ht:tget T f with
   |none=>rw [ht] at hc;simp at hc
   |some q =>
    rw [ht] at hc
    cases q with
    |ext gg =>
     simp only at hc
     obtain ⟨k1,hc⟩:=chk_some hc
     obtain ⟨as,k0,hc⟩:=bnd_some hc
     obtain ⟨u,k2,hc⟩:=bnd_some hc
     obtain ⟨k3,hc⟩:=chk_some hc
     simp only [Option.some.injEq,Prod.mk.injEq] at hc
     obtain ⟨rfl,rfl,rfl⟩:=hc
     obtain ⟨e1,e2⟩:=hT.ext f gg ht
     refine ⟨e1,fun B w0 g w xs hI hgl hx _=>?_⟩
     have hx2:=((frz_both (g2:=⟨fun _=>none,fun b=>b < w.heap.size⟩) hI (fun b hb=>hI.zlt b hb) (fun i l b hl hbk=>(hI.own i l b hl hbk).2.2) deep).2 args as k0).val xs hx
     refine (e2 as _ k2 (fun b=>b < w.heap.size) w xs (fun _ h=>h) (hgl.scope fun b hb=>hI.zlt b hb) hx2).mono ?_
     rintro e w' ⟨y,rfl,hb,h1⟩
     exact ⟨⟨g.κ,zone g.Z w w'⟩,.inl ⟨y,rfl,h1.flat k3⟩,Nx.scope hI hb,fun _ _ h=>⟨h,rfl⟩⟩
    |rd d =>
     simp only at hc
     obtain ⟨k1,hc⟩:=chk_some hc
     omega
    |ct c =>
     simp only at hc
     obtain ⟨hlt,hc⟩:=chk_some hc
     obtain ⟨e1,rfl,rfl,e2,e3⟩:=enter_ct hrk ih hst hT.mix (hT.ct f c ht) hc
     exact ⟨e1,fun B w0 g w xs hI hgl hx _=>isoCall_sound e3.pan e2 hI hgl hx _⟩
    |mr d =>
     simp only at hc
     obtain ⟨hlt,hc⟩:=chk_some hc
     obtain ⟨e1,rfl,rfl,e2,e3⟩:=enter_mr hrk ih hst hT.mix (hT.mr f d ht) hc
     exact ⟨e1,fun B w0 g w xs hI hgl hx _=>isoCall_sound e3.pan e2 hI hgl hx _⟩
    |fn d =>
     simp only at hc
     obtain ⟨hlt,hc⟩:=chk_some hc
     have hok:=hT.fn f d ht
     cases hm:d.mode with
     |iso =>
      obtain ⟨e1,rfl,rfl,e2,e3⟩:=enter_iso hrk ih hst hT.mix hok hm hc
      exact ⟨e1,fun B w0 g w xs hI hgl hx _=>isoCall_sound e3 e2 hI hgl hx _⟩
     |isf =>
      obtain ⟨e1,rfl,rfl,e3⟩:=enter_isf hrk ih hst hT.mix hok hm hc
      exact ⟨e1,fun B w0 g w xs hI hgl hx _=>e3 B w0 g w xs hI hgl hx⟩
     |isc =>
      obtain ⟨e1,rfl,rfl,e3⟩:=enter_isc hrk ih hst hT.mix hok hm hc
      exact ⟨e1,fun B w0 g w xs hI hgl hx _=>e3 B w0 g w xs hI hgl hx⟩
     |shr =>
      unfold enter at hc
      obtain ⟨hnp,hc⟩:=chk_some hc
      rw [hm] at hc
      simp only at hc
      obtain ⟨x,k1,hc⟩:=bnd_some hc
      obtain ⟨u,k2,hc⟩:=bnd_some hc
      simp only [Option.some.injEq,Prod.mk.injEq] at hc
      obtain ⟨rfl,rfl,rfl⟩:=hc
      exact ⟨entry hok,fun B w0 g w xs hI hgl hx hf=>(body_sound hrk ih hst hT.mix hok hnp k1 k2 hf).2.2 B w0 g w xs hI hgl hx⟩
  ·intro f id caps args h nx v h' nx' hc hge B w0 g w y xs hI hgl hy hx hf
   simp only [call] at hc
   cases ht:tget T f with
   |none=>rw [ht] at hc;simp at hc
   |some q =>
    rw [ht] at hc
    cases q with
    |ext gg =>
     simp only at hc
     obtain ⟨k1,hc⟩:=chk_some hc
     omega
    |fn d =>
     simp only at hc
     obtain ⟨hlt,hc⟩:=chk_some hc
     omega
    |ct c =>
     simp only at hc
     obtain ⟨hlt,hc⟩:=chk_some hc
     omega
    |mr c =>
     simp only at hc
     obtain ⟨hlt,hc⟩:=chk_some hc
     omega
    |rd d =>
     simp only at hc
     obtain ⟨k1,hc⟩:=chk_some hc
     exact round_sound (fun f r ct=>(hT.rk f r ct).symm) ih hst hT.mix (by simp [rdOf,ht]) hc hf hI hgl hy hx
  ·intro f args h nx v h' nx' hc
   have hb:RB < OB:=by decide
   simp only [call] at hc
   cases ht:tget T f with
   |none=>rw [ht] at hc;simp at hc
   |some q =>
    rw [ht] at hc
    cases q<;>simp only at hc<;>(obtain ⟨k1,hc⟩:=chk_some hc;first | exact k1.2 | exact Nat.lt_trans k1 hb)
end
end Go.FI
namespace Go.FI
inductive Dt where
 |s (b:List UInt8)
 |i (k:IntKind) (n:Int)
 |b (b:Bool)
 |agg (l:List Dt)
 |slice (l:List Dt) (m:List Dt)
mutual
def dataCells:Dt→List FV
 |.s b=>[.str b]
 |.i k n=>[.int k n]
 |.b b=>[.bool b]
 |.agg l=>datasCells l
 |.slice l _=>[.lst false (dataElems l)]
def datasCells:List Dt→List FV
 |[]=>[]
 |d::r=>dataCells d ++ datasCells r
def dataElems:List Dt→List FV
 |[]=>[]
 |.agg l::r=>.agg (datasCells l)::dataElems r
 |d::r=>(dataCells d).headD .undef::dataElems r
end
theorem okC_gl (gl:Nat→List FV→Bool) (r1 r2:Nat→Loop→List Nat→Prop) (p:∀ k cs,gl k cs=true→pures cs=true):@okC ⟨gl,r1,p⟩=@okC ⟨gl,r2,p⟩:=by kernel_rfl
theorem RkOf_gl {s t:Sys} (h:s.gl=t.gl) {P:Program} {cm:Nat→Nat} {rdO:Nat→Option Rd} {f:Nat} {r:Loop} {ct:List Nat}:@RkOf s P cm rdO f r ct ↔ @RkOf t P cm rdO f r ct:=by
 obtain ⟨g1,r1,p1⟩:=s
 obtain ⟨g2,r2,p2⟩:=t
 simp only at h
 subst h
 unfold RkOf
 rw [okC_gl g1 r1 r2 p1]
end Go.FI
namespace Go.FI
open Go.RowKit
def Le (c c':Call):Prop:=∀ f a h nx r,c f a h nx=some r→c' f a h nx=some r
theorem bnd_mk {α β:Type} {x:Option α} {f:α→Option β} {a:α} {r:β} (h:x=some a) (k:f a=some r):bnd x f=some r:=by rw [h];exact k
theorem np_le {c c':Call} (hc:Le c c'):Le (np c) (np c'):=fun f a h nx r hr=>by
 unfold np at hr ⊢
 obtain ⟨x,h1,h2⟩:=bnd_some hr
 exact bnd_mk (hc _ _ _ _ _ h1) h2
theorem opg_le {c c':Call} (hc:Le c c') {id:Nat} {g:G} {m:Tm} {h:Heap} {nx:Nat} {r:FV × Heap × Nat} (hr:opg c id g m h nx=some r):opg c' id g m h nx=some r:=by
 obtain ⟨d,gd,o,re⟩:=g
 cases o
 case cl f xs=>exact hc _ _ _ _ _ hr
 case cw f xs =>
  simp only [opg] at hr ⊢
  split at hr
  ·split at hr
   ·rename_i hq;rw [if_pos hq];exact hc _ _ _ _ _ hr
   ·rename_i hq;rw [if_neg hq];exact hc _ _ _ _ _ hr
  ·exact hc _ _ _ _ _ hr
  ·simp at hr
 all_goals exact hr
theorem rechk_map {α:Type} {h:Heap} {m:Tm} {x y:Option α} (hxy:∀ r,x=some r→y=some r):∀ (l:List (Option (Nat × Bool) × Option Nat × Nat × Nat)) (r:α),rechk h m x l=some r→rechk h m y l=some r:=by
 intro l
 induction l with
 |nil=>exact hxy
 |cons p l ih =>
  obtain ⟨gd,ag,n,d⟩:=p
  intro r hr
  simp only [rechk] at hr ⊢
  obtain ⟨b,h1,h2⟩:=bnd_some hr
  refine bnd_mk h1 ?_
  cases b with
  |true =>
   simp only [if_true] at h2 ⊢
   obtain ⟨h3,h4⟩:=chk_some h2
   unfold chk
   rw [if_pos h3]
   exact ih r h4
  |false =>
   simp only [Bool.false_eq_true,if_false] at h2 ⊢
   exact ih r h2
theorem rops_le {c c':Call} (hc:Le c c'):∀ (gs:List G) (id:Nat) (m:Tm) (h:Heap) (nx:Nat) (r:Tm × Heap × Nat),rops c id gs m h nx=some r→rops c' id gs m h nx=some r:=by
 intro gs
 induction gs with
 |nil=>intro id m h nx r hr;exact hr
 |cons g gs ih =>
  intro id m h nx r hr
  simp only [rops] at hr ⊢
  obtain ⟨b,h1,h2⟩:=bnd_some hr
  refine bnd_mk h1 ?_
  split at h2
  ·rename_i hb
   rw [if_pos hb]
   obtain ⟨x,h3,h4⟩:=bnd_some h2
   exact bnd_mk (opg_le hc h3) (rechk_map (fun r hr=>ih _ _ _ _ r hr) _ _ h4)
  ·rename_i hb
   rw [if_neg hb]
   exact ih _ _ _ _ _ h2
theorem ropsP_le {c c':Call} (hc:Le c c'):∀ (gs:List G) (id:Nat) (m:Tm) (h:Heap) (nx:Nat) (r:Option FV × Tm × Heap × Nat),ropsP c id gs m h nx=some r→ropsP c' id gs m h nx=some r:=by
 intro gs
 induction gs with
 |nil=>intro id m h nx r hr;exact hr
 |cons g gs ih =>
  intro id m h nx r hr
  simp only [ropsP] at hr ⊢
  obtain ⟨b,h1,h2⟩:=bnd_some hr
  refine bnd_mk h1 ?_
  split at h2
  ·rename_i hb
   rw [if_pos hb]
   split at h2
   ·exact h2
   ·obtain ⟨y,h3,h4⟩:=bnd_some h2
    refine bnd_mk (hc _ _ _ _ _ h3) ?_
    split at h4
    ·exact h4
    ·exact ih _ _ _ _ _ h4
   ·obtain ⟨y,h3,h4⟩:=bnd_some h2
    exact bnd_mk (opg_le (np_le hc) h3) (ih _ _ _ _ _ h4)
  ·rename_i hb
   rw [if_neg hb]
   exact ih _ _ _ _ _ h2
theorem ropsD_le {c c':Call} (hc:Le c c') {id k:Nat} {gs:List G} {m:Tm} {h:Heap} {nx:Nat} {r:Option FV × Tm × Heap × Nat} (hr:ropsD c id k gs m h nx=some r):ropsD c' id k gs m h nx=some r:=by
 unfold ropsD at hr ⊢
 obtain ⟨x,h1,hr⟩:=bnd_some hr
 refine bnd_mk (rops_le (np_le hc) _ _ _ _ _ _ h1) ?_
 split at hr
 ·obtain ⟨y,h2,hr⟩:=bnd_some hr
  refine bnd_mk (hc _ _ _ _ _ h2) ?_
  split at hr
  ·exact hr
  ·obtain ⟨z,h3,hr⟩:=bnd_some hr
   exact bnd_mk (rechk_map (fun r hr=>rops_le (np_le hc) _ _ _ _ _ _ hr) _ _ h3) hr
 ·exact hr
theorem run_le {c c':Call} (hc:Le c c'):∀ (n n':Nat),n ≤ n'→∀ (l:List I) (m:Tm) (h:Heap) (nx:Nat) (r:Ex × Tm × Heap × Nat),run c n l m h nx=some r→run c' n' l m h nx=some r:=by
 intro n
 induction n with
 |zero=>intro n' _ l m h nx r hr;simp [run] at hr
 |succ n ih =>
  intro n' hn l m h nx r hr
  obtain ⟨k,rfl⟩:∃ k,n'=k + 1:=⟨n' - 1,by omega⟩
  have ih:=ih k (by omega)
  cases l with
  |nil=>simpa only [run] using hr
  |cons i l =>
   cases i with
   |inB id=>simp only [run] at hr ⊢; exact ih _ _ _ _ _ hr
   |inS c=>simp only [run] at hr ⊢; exact ih _ _ _ _ _ hr
   |beg id =>
    simp only [run] at hr ⊢
    split at hr
    ·exact ih _ _ _ _ _ hr
    ·simp at hr
   |inL t c =>
    cases t with
    |none=>simp only [run] at hr ⊢; exact ih _ _ _ _ _ hr
    |some b =>
     simp only [run] at hr ⊢
     obtain ⟨h1,h2⟩:=chk_some hr
     unfold chk
     rw [if_pos h1]
     exact ih _ _ _ _ _ h2
   |code c =>
    cases c with
    |bad=>simp only [run] at hr;cases hr
    |sk=>simp only [run] at hr ⊢; exact ih _ _ _ _ _ hr
    |lb t=>simp only [run] at hr ⊢; exact ih _ _ _ _ _ hr
    |sc c=>simp only [run] at hr ⊢; exact ih _ _ _ _ _ hr
    |go t =>
     simp only [run] at hr ⊢
     split at hr
     ·exact ih _ _ _ _ _ hr
     ·simp at hr
    |rf f x ct =>
     simp only [run] at hr ⊢
     split at hr
     ·obtain ⟨y,h1,h2⟩:=bnd_some hr
      refine bnd_mk (np_le hc _ _ _ _ _ h1) ?_
      split at h2
      ·rename_i hg
       obtain ⟨h3,h4⟩:=chk_some h2
       simp only [hg,chk,if_pos h3]
       split at h4<;>exact ih _ _ _ _ _ h4
      ·simp at h2
     ·simp at hr
    |rg d gs keep =>
     simp only [run] at hr ⊢
     obtain ⟨x,h1,h2⟩:=bnd_some hr
     exact bnd_mk (rops_le (np_le hc) _ _ _ _ _ _ h1) (ih _ _ _ _ _ h2)
    |rp pm c0 kp gs keep =>
     simp only [run] at hr ⊢
     obtain ⟨x,h1,h2⟩:=bnd_some hr
     refine bnd_mk (ropsD_le hc h1) ?_
     split at h2
     ·exact ih _ _ _ _ _ h2
     ·exact h2
    |rq gs keep =>
     simp only [run] at hr ⊢
     obtain ⟨x,h1,h2⟩:=bnd_some hr
     refine bnd_mk (ropsP_le hc _ _ _ _ _ _ h1) ?_
     split at h2
     ·exact ih _ _ _ _ _ h2
     ·exact h2
    |sq a b=>simp only [run] at hr ⊢; exact ih _ _ _ _ _ hr
    |cd x a b =>
     simp only [run] at hr ⊢
     split at hr
     ·split at hr
      ·rename_i hb;rw [if_pos hb];exact ih _ _ _ _ _ hr
      ·rename_i hb;rw [if_neg hb];exact ih _ _ _ _ _ hr
     ·simp at hr
    |bl id c=>simp only [run] at hr ⊢; exact ih _ _ _ _ _ hr
    |lp t c=>simp only [run] at hr ⊢; exact ih _ _ _ _ _ hr
    |xt id =>
     simp only [run] at hr ⊢
     split at hr
     ·exact ih _ _ _ _ _ hr
     ·exact hr
    |rt=>simpa only [run] using hr
def enterWith (rn:List I→Tm→Heap→Nat→Option (Ex × Tm × Heap × Nat)) (f:Fn) (args:List FV) (h:Heap) (nx:Nat):Option (FV × Heap × Nat) :=
 chk (args.length=f.np) <| match f.mode with
 |.iso=>chk (pures args=true) <| bnd (rn [.code f.body] (params 0 args) [] 0) fun x =>
   bnd (finish f x) fun v=>bnd (frz x.2.2.1 deep v) fun r=>some (r,h,nx)
 |.isf=>bnd (frzs h deep args) fun as=>bnd (rn [.code f.body] (params 0 as) [] 0) fun x =>
   bnd (finish f x) fun v=>chk (flat v=true) (some (v,h,nx))
 |.isc=>bnd (frzs h deep args) fun as=>bnd (rn [.code f.body] (params 0 as) [] 0) fun x =>
   bnd (finish f x) fun v=>bnd (frz x.2.2.1 deep v) fun r=>some (r,froze h (idL h deep args),nx)
 |.shr=>bnd (rn [.code f.body] (params 0 args) h nx) fun x =>
   bnd (finish f x) fun v=>some (v,x.2.2.1,x.2.2.2)
theorem enter_eq (cal:Call) (n:Nat) (f:Fn) (args:List FV) (h:Heap) (nx:Nat):enter cal n f args h nx=enterWith (run cal n) f args h nx:=rfl
theorem enterWith_map {rn rn':List I→Tm→Heap→Nat→Option (Ex × Tm × Heap × Nat)} {f:Fn} (hr:∀ m h nx x,rn [.code f.body] m h nx=some x→rn' [.code f.body] m h nx=some x) {args:List FV} {h:Heap} {nx:Nat} {r:FV × Heap × Nat}
  (he:enterWith rn f args h nx=some r):enterWith rn' f args h nx=some r:=by
 unfold enterWith at he ⊢
 obtain ⟨h1,he⟩:=chk_some he
 rw [chk,if_pos h1]
 cases hm:f.mode with
 |iso =>
  rw [hm] at he
  simp only at he ⊢
  obtain ⟨h2,he⟩:=chk_some he
  rw [chk,if_pos h2]
  obtain ⟨x,h3,he⟩:=bnd_some he
  exact bnd_mk (hr _ _ _ _ h3) he
 |isf =>
  rw [hm] at he
  simp only at he ⊢
  obtain ⟨as,h2,he⟩:=bnd_some he
  obtain ⟨x,h3,he⟩:=bnd_some he
  exact bnd_mk h2 (bnd_mk (hr _ _ _ _ h3) he)
 |isc =>
  rw [hm] at he
  simp only at he ⊢
  obtain ⟨as,h2,he⟩:=bnd_some he
  obtain ⟨x,h3,he⟩:=bnd_some he
  exact bnd_mk h2 (bnd_mk (hr _ _ _ _ h3) he)
 |shr =>
  rw [hm] at he
  simp only at he ⊢
  obtain ⟨x,h3,he⟩:=bnd_some he
  exact bnd_mk (hr _ _ _ _ h3) he
def roundWith (rn:List I→Tm→Heap→Nat→Option (Ex × Tm × Heap × Nat)) (d:Rd) (args:List FV) (h:Heap) (nx:Nat):Option (FV × Heap × Nat) :=
 match args with
 |.yl _ id caps::xs=>chk (xs.length=d.ps.length∧caps.length=d.ct.length∧isLp h id=true)
   (bnd (rn [.code d.asg,.beg id,.code d.body] (zipTm d.ps xs ++ zipTm d.ct caps) h nx) (leave id))
 |_=>none
theorem round_eq (cal:Call) (n:Nat) (d:Rd) (args:List FV) (h:Heap) (nx:Nat):round cal n d args h nx=roundWith (run cal n) d args h nx:=rfl
theorem roundWith_map {rn rn':List I→Tm→Heap→Nat→Option (Ex × Tm × Heap × Nat)} {d:Rd} (hr:∀ l m h nx x,rn l m h nx=some x→rn' l m h nx=some x) {args:List FV} {h:Heap} {nx:Nat} {r:FV × Heap × Nat}
  (he:roundWith rn d args h nx=some r):roundWith rn' d args h nx=some r:=by
 unfold roundWith at he ⊢
 split at he
 ·obtain ⟨h1,he⟩:=chk_some he
  obtain ⟨x,h2,h3⟩:=bnd_some he
  rw [chk,if_pos h1]
  exact bnd_mk (hr _ _ _ _ _ h2) h3
 ·simp at he
def catchWith (rg:Option (Tm × Heap × Nat)) (rn:List I→Tm→Heap→Nat→Option (Ex × Tm × Heap × Nat)) (c:Ct) (args:List FV) (h:Heap) (nx:Nat):Option (FV × Heap × Nat) :=
 chk (args.length=c.np∧pures args=true) <| bnd (bnd rg fun x =>
  bnd (rn [.code c.rest] (put (keepOf x.1 c.keep) (some c.dst) (.fn c.g (evs x.1 (c.ct.map .t)))) x.2.1 x.2.2) fun y =>
   bnd (caught y.1) fun v =>
    bnd (rn [.code c.hb] ((c.ht,v)::params 0 (evs x.1 (c.ct.map .t))) y.2.2.1 y.2.2.2) fun z =>
     chk (isEnd z.1=true) (some (y.2.1,z.2.2.1,z.2.2.2))) fun x =>
  bnd (readRes x.1 x.2.1 c.res) fun vs=>bnd (frz x.2.1 deep (result vs)) fun r=>some (r,h,nx)
theorem catch_eq (cal:Call) (n:Nat) (c:Ct) (args:List FV) (h:Heap) (nx:Nat):enterC cal n c args h nx=catchWith (rops (np cal) 0 c.pre (params 0 args) [] c.pre.length) (run cal n) c args h nx:=rfl
theorem catchWith_map {rg rg':Option (Tm × Heap × Nat)} {rn rn':List I→Tm→Heap→Nat→Option (Ex × Tm × Heap × Nat)} {c:Ct} (hg:∀ x,rg=some x→rg'=some x) (hr:∀ l m h nx x,rn l m h nx=some x→rn' l m h nx=some x) {args:List FV} {h:Heap} {nx:Nat} {r:FV × Heap × Nat}
  (he:catchWith rg rn c args h nx=some r):catchWith rg' rn' c args h nx=some r:=by
 unfold catchWith at he ⊢
 obtain ⟨h1,he⟩:=chk_some he
 rw [chk,if_pos h1]
 obtain ⟨x,h2,he⟩:=bnd_some he
 refine bnd_mk ?_ he
 obtain ⟨y,h3,h2⟩:=bnd_some h2
 refine bnd_mk (hg _ h3) ?_
 obtain ⟨y2,h4,h2⟩:=bnd_some h2
 refine bnd_mk (hr _ _ _ _ _ h4) ?_
 obtain ⟨v,h5,h2⟩:=bnd_some h2
 refine bnd_mk h5 ?_
 obtain ⟨z,h6,h2⟩:=bnd_some h2
 exact bnd_mk (hr _ _ _ _ _ h6) h2
theorem runPre_map {rn rn':Rn} (hr:∀ l m h nx x,rn l m h nx=some x→rn' l m h nx=some x):∀ (ps:List C) (m:Tm) (h:Heap) (nx:Nat) (x:Ex × Tm × Heap × Nat),runPre rn ps m h nx=some x→runPre rn' ps m h nx=some x:=by
 intro ps
 induction ps with
 |nil=>intro m h nx x hx;exact hx
 |cons p ps ih =>
  intro m h nx x hx
  simp only [runPre] at hx ⊢
  obtain ⟨⟨ex,y⟩,h1,h2⟩:=bnd_some hx
  refine bnd_mk (hr _ _ _ _ _ h1) ?_
  cases ex with
  |fin=>exact ih _ _ _ _ h2
  |ret=>exact h2
  |xt=>exact h2
  |pan=>exact h2
theorem runIt_map {ro ro':Ro} {rn rn':Rn} (ho:∀ i l m h nx x,ro i l m h nx=some x→ro' i l m h nx=some x) (hr:∀ l m h nx x,rn l m h nx=some x→rn' l m h nx=some x) {d:Mr} {e:FV × FV} {m:Tm} {h:Heap} {nx:Nat} {x:Tm × Heap × Nat} (hx:runIt ro rn d e m h nx=some x):runIt ro' rn' d e m h nx=some x:=by
 unfold runIt at hx ⊢
 obtain ⟨y,h1,h2⟩:=bnd_some hx
 obtain ⟨z,h3,h4⟩:=bnd_some h2
 exact bnd_mk (ho _ _ _ _ _ _ h1) (bnd_mk (hr _ _ _ _ _ h3) h4)
theorem same_map {α:Type} {l:List α} {F G:α→Option FV}:∀ {r:FV},(∀ x ∈ l,∀ r,F x=some r→G x=some r)→same (l.map F)=some r→same (l.map G)=some r:=by
 induction l with
 |nil=>intro r _ h;exact h
 |cons x l ih =>
  intro r hfg h
  cases l with
  |nil=>simp only [List.map_cons,List.map_nil,same] at h ⊢; exact hfg x (by simp) _ h
  |cons y l =>
   simp only [List.map_cons,same] at h ⊢
   obtain ⟨a,h1,h⟩:=bnd_some h
   obtain ⟨b,h2,h⟩:=bnd_some h
   refine bnd_mk (hfg x (by simp) _ h1) (bnd_mk (ih (fun z hz=>hfg z (by simp [hz])) h2) h)
theorem runAll_map {ro ro':Ro} {rn rn':Rn} (ho:∀ i l m h nx x,ro i l m h nx=some x→ro' i l m h nx=some x) (hr:∀ l m h nx x,rn l m h nx=some x→rn' l m h nx=some x) {d:Mr} {iid:Nat}:∀ (c:Nat) (l:List (FV × FV)) (m:Tm) (h:Heap) (nx:Nat) (r:FV),
  runAll ro rn d iid c l m h nx=some r→runAll ro' rn' d iid c l m h nx=some r:=by
 intro c
 induction c with
 |zero =>
  intro l m h nx r hx
  cases l with
  |nil =>
   simp only [runAll] at hx ⊢
   obtain ⟨h1,hx⟩:=chk_some hx
   obtain ⟨y,h2,hx⟩:=bnd_some hx
   rw [chk,if_pos h1]
   exact bnd_mk (hr _ _ _ _ _ h2) hx
  |cons=>simp [runAll] at hx
 |succ c ih =>
  intro l m h nx r hx
  cases l with
  |nil =>
   simp only [runAll] at hx ⊢
   obtain ⟨h1,hx⟩:=chk_some hx
   obtain ⟨y,h2,hx⟩:=bnd_some hx
   rw [chk,if_pos h1]
   exact bnd_mk (hr _ _ _ _ _ h2) hx
  |cons e es =>
   simp only [runAll] at hx ⊢
   obtain ⟨h1,hx⟩:=chk_some hx
   rw [chk,if_pos h1]
   refine same_map (fun p _ r h2=>?_) hx
   obtain ⟨y,h3,h4⟩:=bnd_some h2
   exact bnd_mk (runIt_map ho hr h3) (ih _ _ _ _ _ h4)
theorem mrV_map {ro ro':Ro} {rn rn':Rn} (ho:∀ i l m h nx x,ro i l m h nx=some x→ro' i l m h nx=some x) (hr:∀ l m h nx x,rn l m h nx=some x→rn' l m h nx=some x) {d:Mr} {args:List FV} {r:FV} (hx:mrV ro rn d args=some r):mrV ro' rn' d args=some r:=by
 unfold mrV at hx ⊢
 obtain ⟨h1,hx⟩:=chk_some hx
 rw [chk,if_pos h1]
 obtain ⟨⟨ex,m1,h1',nx1⟩,h2,hx⟩:=bnd_some hx
 refine bnd_mk (runPre_map hr _ _ _ _ _ h2) ?_
 cases ex with
 |ret=>exact hx
 |fin =>
  simp only at hx ⊢
  cases he:gt m1 d.mp with
  |map id =>
   rw [he] at hx
   simp only at hx ⊢
   cases hg:hget h1' id with
   |none=>rw [hg] at hx;cases hx
   |some o =>
    rw [hg] at hx
    cases o with
    |mp en=>exact runAll_map ho hr _ _ _ _ _ _ hx
    |_=>cases hx
  |_=>rw [he] at hx;cases hx
 |_=>cases hx
theorem enterM_map {ro ro':Ro} {rn rn':Rn} (ho:∀ i l m h nx x,ro i l m h nx=some x→ro' i l m h nx=some x) (hr:∀ l m h nx x,rn l m h nx=some x→rn' l m h nx=some x) {d:Mr} {args:List FV} {h:Heap} {nx:Nat} {r:FV × Heap × Nat} (hx:enterM ro rn d args h nx=some r):enterM ro' rn' d args h nx=some r:=by
 unfold enterM at hx ⊢
 obtain ⟨y,h2,hx⟩:=bnd_some hx
 exact bnd_mk (mrV_map ho hr h2) hx
theorem call_le (T:Tab):∀ n n',n ≤ n'→Le (call T n) (call T n'):=by
 intro n
 induction n with
 |zero=>intro n' _ f a h nx r hr;simp [call] at hr
 |succ n ih =>
  intro n' hn f a h nx r hr
  obtain ⟨k,rfl⟩:∃ k,n'=k + 1:=⟨n' - 1,by omega⟩
  simp only [call] at hr ⊢
  split at hr
  ·obtain ⟨h1,hr⟩:=chk_some hr
   rw [chk,if_pos h1]
   rw [enter_eq] at hr ⊢
   exact enterWith_map (fun m h nx x hx=>run_le (ih k (by omega)) n k (by omega) _ _ _ _ _ hx) hr
  ·obtain ⟨h1,hr⟩:=chk_some hr
   rw [chk,if_pos h1]
   rw [catch_eq] at hr ⊢
   exact catchWith_map (fun x hx=>rops_le (np_le (ih k (by omega))) _ _ _ _ _ _ hx) (fun l m h nx x hx=>run_le (ih k (by omega)) n k (by omega) _ _ _ _ _ hx) hr
  ·obtain ⟨h1,hr⟩:=chk_some hr
   rw [chk,if_pos h1]
   exact enterM_map (fun i l m h nx x hx=>rops_le (np_le (ih k (by omega))) _ _ _ _ _ _ hx) (fun l m h nx x hx=>run_le (ih k (by omega)) n k (by omega) _ _ _ _ _ hx) hr
  ·obtain ⟨h1,hr⟩:=chk_some hr
   rw [chk,if_pos h1]
   rw [round_eq] at hr ⊢
   exact roundWith_map (fun l m h nx x hx=>run_le (ih k (by omega)) n k (by omega) _ _ _ _ _ hx) hr
  ·exact hr
  ·simp at hr
open Classical in
noncomputable def sup {α:Type} (F:Nat→Option α):Option α:=if h:∃ n r,F n=some r then F h.choose else none
theorem sup_some {α:Type} {F:Nat→Option α} (hm:∀ n n' r,n ≤ n'→F n=some r→F n'=some r) (r:α):sup F=some r ↔ ∃ n,F n=some r:=by
 unfold sup
 constructor
 ·intro h
  split at h
  ·exact ⟨_,h⟩
  ·cases h
 ·rintro ⟨n,hn⟩
  have h:∃ n r,F n=some r:=⟨n,r,hn⟩
  rw [dif_pos h]
  obtain ⟨q,hq⟩:=h.choose_spec
  rw [hq]
  have h1:=hm _ (max n h.choose) r (by omega) hn
  have h2:=hm _ (max n h.choose) q (by omega) hq
  rw [h1] at h2;cases h2;rfl
noncomputable def lim (T:Tab):Call:=fun f a h nx=>sup fun n=>call T n f a h nx
noncomputable def runs (T:Tab) (l:List I) (m:Tm) (h:Heap) (nx:Nat):Option (Ex × Tm × Heap × Nat):=sup fun n=>run (lim T) n l m h nx
theorem lim_some {T:Tab} {f:Nat} {a:List FV} {h:Heap} {nx:Nat} {r:FV × Heap × Nat}:lim T f a h nx=some r ↔ ∃ n,call T n f a h nx=some r :=
 sup_some (fun n n' r hn hr=>call_le T n n' hn _ _ _ _ _ hr) r
theorem le_lim (T:Tab) (n:Nat):Le (call T n) (lim T):=fun _ _ _ _ _ hr=>lim_some.2 ⟨n,hr⟩
theorem runs_some {T:Tab} {l:List I} {m:Tm} {h:Heap} {nx:Nat} {r:Ex × Tm × Heap × Nat}:runs T l m h nx=some r ↔ ∃ n,run (lim T) n l m h nx=some r :=
 sup_some (fun n n' r hn hr=>run_le (fun _ _ _ _ _ h=>h) n n' hn _ _ _ _ _ hr) r
theorem np_cont {T:Tab} {f:Nat} {a:List FV} {h:Heap} {nx:Nat} {r:FV × Heap × Nat} (hr:np (lim T) f a h nx=some r):∃ k,np (call T k) f a h nx=some r:=by
 unfold np at hr
 obtain ⟨x,h1,h2⟩:=bnd_some hr
 obtain ⟨k,hk⟩:=lim_some.1 h1
 exact ⟨k,by unfold np;exact bnd_mk hk h2⟩
theorem opg_cont {T:Tab} {id:Nat} {g:G} {m:Tm} {h:Heap} {nx:Nat} {r:FV × Heap × Nat} (hr:opg (np (lim T)) id g m h nx=some r):∃ k,opg (np (call T k)) id g m h nx=some r:=by
 obtain ⟨d,gd,o,re⟩:=g
 cases o
 case cl f xs=>exact np_cont hr
 case cw f xs =>
  simp only [opg] at hr ⊢
  split at hr
  ·split at hr
   ·rename_i hq;simp only [if_pos hq];exact np_cont hr
   ·rename_i hq;simp only [if_neg hq];exact np_cont hr
  ·exact np_cont hr
  ·simp at hr
 all_goals exact ⟨0,hr⟩
theorem rops_cont {T:Tab}:∀ (gs:List G) (id:Nat) (m:Tm) (h:Heap) (nx:Nat) (r:Tm × Heap × Nat),rops (np (lim T)) id gs m h nx=some r→∃ k,rops (np (call T k)) id gs m h nx=some r:=by
 intro gs
 induction gs with
 |nil=>intro id m h nx r hr;exact ⟨0,hr⟩
 |cons g gs ih =>
  intro id m h nx r hr
  simp only [rops] at hr
  obtain ⟨b,h1,h2⟩:=bnd_some hr
  split at h2
  ·rename_i hb
   obtain ⟨x,h3,h4⟩:=bnd_some h2
   obtain ⟨k1,hk1⟩:=opg_cont h3
   obtain ⟨h5,_⟩:=rechk_some h4
   obtain ⟨k2,hk2⟩:=ih _ _ _ _ _ h5
   refine ⟨max k1 k2,?_⟩
   simp only [rops]
   refine bnd_mk h1 ?_
   rw [if_pos hb]
   refine bnd_mk (opg_le (np_le (call_le T k1 _ (by omega))) hk1) (rechk_map (fun q hq=>?_) _ _ h4)
   rw [h5] at hq;cases hq
   exact rops_le (np_le (call_le T k2 _ (by omega))) _ _ _ _ _ _ hk2
  ·rename_i hb
   obtain ⟨k,hk⟩:=ih _ _ _ _ _ h2
   refine ⟨k,?_⟩
   simp only [rops]
   refine bnd_mk h1 ?_
   rw [if_neg hb]
   exact hk
theorem ropsP_o {cal:Call} {id:Nat} {gg:G} {gs:List G} {m:Tm} {h:Heap} {nx:Nat} (h1:∀ x,gg.op ≠ .pn x) (h2:∀ f as,gg.op ≠ .cl f as) :
  ropsP cal id (gg::gs) m h nx=bnd (wanted m gg.guard) fun b=>if b=true then bnd (opg (np cal) id ⟨gg.dst,gg.guard,gg.op,[]⟩ m h nx) fun x=>ropsP cal (id + 1) gs (put m gg.dst x.1) x.2.1 x.2.2 else ropsP cal (id + 1) gs (put m gg.dst (.tup [])) h nx:=by
 obtain ⟨d,gd,o,re⟩:=gg
 cases o<;>first | rfl | exact absurd rfl (h1 _) | exact absurd rfl (h2 _ _)
theorem ropsP_cont {T:Tab}:∀ (gs:List G) (id:Nat) (m:Tm) (h:Heap) (nx:Nat) (r:Option FV × Tm × Heap × Nat),ropsP (lim T) id gs m h nx=some r→∃ k,ropsP (call T k) id gs m h nx=some r:=by
 intro gs
 induction gs with
 |nil=>intro id m h nx r hr;exact ⟨0,hr⟩
 |cons g gs ih =>
  intro id m h nx r hr
  simp only [ropsP] at hr
  obtain ⟨b,h1,h2⟩:=bnd_some hr
  split at h2
  ·rename_i hb
   split at h2
   ·rename_i x hg
    exact ⟨0,by simp only [ropsP];refine bnd_mk h1 ?_;rw [if_pos hb];simp only [hg];exact h2⟩
   ·rename_i f as hg
    obtain ⟨y,h3,h4⟩:=bnd_some h2
    obtain ⟨k1,hk1⟩:=lim_some.1 h3
    split at h4
    ·rename_i v hv
     exact ⟨k1,by simp only [ropsP];refine bnd_mk h1 ?_;rw [if_pos hb];simp only [hg];refine bnd_mk hk1 ?_;simp only [hv];exact h4⟩
    ·rename_i hv
     obtain ⟨k2,hk2⟩:=ih _ _ _ _ _ h4
     refine ⟨max k1 k2,?_⟩
     simp only [ropsP]
     refine bnd_mk h1 ?_
     rw [if_pos hb]
     simp only [hg]
     refine bnd_mk (call_le T k1 _ (by omega) _ _ _ _ _ hk1) ?_
     split
     ·rename_i v hv2;exact absurd hv2 (hv v)
     ·exact ropsP_le (call_le T k2 _ (by omega)) _ _ _ _ _ _ hk2
   ·rename_i hg1 hg2
    obtain ⟨y,h3,h4⟩:=bnd_some h2
    obtain ⟨k1,hk1⟩:=opg_cont h3
    obtain ⟨k2,hk2⟩:=ih _ _ _ _ _ h4
    refine ⟨max k1 k2,?_⟩
    rw [ropsP_o hg1 hg2]
    refine bnd_mk h1 ?_
    rw [if_pos hb]
    exact bnd_mk (opg_le (np_le (call_le T k1 _ (by omega))) hk1) (ropsP_le (call_le T k2 _ (by omega)) _ _ _ _ _ _ hk2)
  ·rename_i hb
   obtain ⟨k,hk⟩:=ih _ _ _ _ _ h2
   refine ⟨k,?_⟩
   simp only [ropsP]
   refine bnd_mk h1 ?_
   rw [if_neg hb]
   exact hk
theorem ropsD_cont {T:Tab} {id c:Nat} {gs:List G} {m:Tm} {h:Heap} {nx:Nat} {r:Option FV × Tm × Heap × Nat} (hr:ropsD (lim T) id c gs m h nx=some r):∃ k,ropsD (call T k) id c gs m h nx=some r:=by
 unfold ropsD at hr
 obtain ⟨x,h1,hr⟩:=bnd_some hr
 obtain ⟨k1,hk1⟩:=rops_cont _ _ _ _ _ _ h1
 split at hr
 ·rename_i f as hg
  obtain ⟨y,h2,hr⟩:=bnd_some hr
  obtain ⟨k2,hk2⟩:=lim_some.1 h2
  split at hr
  ·rename_i v hv
   refine ⟨max k1 k2,?_⟩
   unfold ropsD
   refine bnd_mk (rops_le (np_le (call_le T k1 _ (by omega))) _ _ _ _ _ _ hk1) ?_
   simp only [hg]
   refine bnd_mk (call_le T k2 _ (by omega) _ _ _ _ _ hk2) ?_
   simp only [hv]
   exact hr
  ·rename_i hv
   obtain ⟨z,h3,hr⟩:=bnd_some hr
   obtain ⟨h5,_⟩:=rechk_some h3
   obtain ⟨k3,hk3⟩:=rops_cont _ _ _ _ _ _ h5
   refine ⟨max k1 (max k2 k3),?_⟩
   unfold ropsD
   refine bnd_mk (rops_le (np_le (call_le T k1 _ (by omega))) _ _ _ _ _ _ hk1) ?_
   simp only [hg]
   refine bnd_mk (call_le T k2 _ (by omega) _ _ _ _ _ hk2) ?_
   split
   ·rename_i v hv2;exact absurd hv2 (hv v)
   ·refine bnd_mk (rechk_map (fun q hq=>?_) _ _ h3) hr
    rw [h5] at hq;cases hq
    exact rops_le (np_le (call_le T k3 _ (by omega))) _ _ _ _ _ _ hk3
 ·simp at hr
theorem run_cont {T:Tab}:∀ (n:Nat) (l:List I) (m:Tm) (h:Heap) (nx:Nat) (r:Ex × Tm × Heap × Nat),run (lim T) n l m h nx=some r→∃ k,n ≤ k∧run (call T k) k l m h nx=some r:=by
 intro n
 induction n with
 |zero=>intro l m h nx r hr;simp [run] at hr
 |succ n ih =>
  intro l m h nx r hr
  have up:∀ {l m h nx},run (lim T) n l m h nx=some r→∃ k,n + 1 ≤ k + 1∧run (call T (k + 1)) k l m h nx=some r:=fun hr=>by
   obtain ⟨k,h1,h2⟩:=ih _ _ _ _ _ hr
   exact ⟨k,by omega,run_le (call_le T k _ (by omega)) k k (Nat.le_refl _) _ _ _ _ _ h2⟩
  cases l with
  |nil=>exact ⟨n + 1,Nat.le_refl _,by simpa only [run] using hr⟩
  |cons i l =>
   cases i with
   |inB id=>simp only [run] at hr;obtain ⟨k,h1,h2⟩:=up hr;exact ⟨k + 1,h1,by simpa only [run] using h2⟩
   |inS c=>simp only [run] at hr;obtain ⟨k,h1,h2⟩:=up hr;exact ⟨k + 1,h1,by simpa only [run] using h2⟩
   |beg id =>
    simp only [run] at hr
    split at hr
    ·rename_i hg;obtain ⟨k,h1,h2⟩:=up hr;exact ⟨k + 1,h1,by simp only [run,hg];exact h2⟩
    ·simp at hr
   |inL t c =>
    cases t with
    |none=>simp only [run] at hr;obtain ⟨k,h1,h2⟩:=up hr;exact ⟨k + 1,h1,by simpa only [run] using h2⟩
    |some b =>
     simp only [run] at hr
     obtain ⟨h0,hr⟩:=chk_some hr
     obtain ⟨k,h1,h2⟩:=up hr
     refine ⟨k + 1,h1,?_⟩
     simp only [run]
     rw [chk,if_pos h0];exact h2
   |code c =>
    cases c with
    |bad=>simp only [run] at hr;cases hr
    |sk=>simp only [run] at hr;obtain ⟨k,h1,h2⟩:=up hr;exact ⟨k + 1,h1,by simpa only [run] using h2⟩
    |lb t=>simp only [run] at hr;obtain ⟨k,h1,h2⟩:=up hr;exact ⟨k + 1,h1,by simpa only [run] using h2⟩
    |sc c=>simp only [run] at hr;obtain ⟨k,h1,h2⟩:=up hr;exact ⟨k + 1,h1,by simpa only [run] using h2⟩
    |go t =>
     simp only [run] at hr
     split at hr
     ·rename_i hx;obtain ⟨k,h1,h2⟩:=up hr;exact ⟨k + 1,h1,by simp only [run,hx];exact h2⟩
     ·simp at hr
    |rf f x ct =>
     simp only [run] at hr
     split at hr
     ·rename_i hx
      obtain ⟨y,h3,hr⟩:=bnd_some hr
      obtain ⟨k1,hk1⟩:=np_cont h3
      split at hr
      ·rename_i hg
       obtain ⟨h4,hr⟩:=chk_some hr
       have fin:∀ {l':List I} {m' h' nx'},run (lim T) n l' m' h' nx'=some r→∃ k2,n ≤ k2∧k1 ≤ k2∧run (call T (k2 + 1)) k2 l' m' h' nx'=some r:=fun hr=>by
        obtain ⟨k2,h1,h2⟩:=ih _ _ _ _ _ hr
        exact ⟨max k1 k2,by omega,by omega,run_le (call_le T k2 _ (by omega)) k2 _ (by omega) _ _ _ _ _ h2⟩
       split at hr
       ·obtain ⟨k2,h1,h5,h2⟩:=fin hr
        exact ⟨k2 + 1,by omega,by simp only [run,hx];refine bnd_mk (np_le (call_le T k1 _ (by omega)) _ _ _ _ _ hk1) ?_;simp only [hg,chk,if_pos h4];exact h2⟩
       ·obtain ⟨k2,h1,h5,h2⟩:=fin hr
        exact ⟨k2 + 1,by omega,by simp only [run,hx];refine bnd_mk (np_le (call_le T k1 _ (by omega)) _ _ _ _ _ hk1) ?_;simp only [hg,chk,if_pos h4];exact h2⟩
       ·obtain ⟨k2,h1,h5,h2⟩:=fin hr
        exact ⟨k2 + 1,by omega,by simp only [run,hx];refine bnd_mk (np_le (call_le T k1 _ (by omega)) _ _ _ _ _ hk1) ?_;simp only [hg,chk,if_pos h4];exact h2⟩
      ·simp at hr
     ·simp at hr
    |rg d gs keep =>
     simp only [run] at hr
     obtain ⟨x,h3,hr⟩:=bnd_some hr
     obtain ⟨k1,hk1⟩:=rops_cont _ _ _ _ _ _ h3
     obtain ⟨k2,h1,h2⟩:=ih _ _ _ _ _ hr
     refine ⟨max k1 k2 + 1,by omega,?_⟩
     simp only [run]
     exact bnd_mk (rops_le (np_le (call_le T k1 _ (by omega))) _ _ _ _ _ _ hk1) (run_le (call_le T k2 _ (by omega)) k2 _ (by omega) _ _ _ _ _ h2)
    |rp pm c0 kp gs keep =>
     simp only [run] at hr
     obtain ⟨⟨p,x⟩,h3,hr⟩:=bnd_some hr
     obtain ⟨k1,hk1⟩:=ropsD_cont h3
     cases p with
     |none =>
      obtain ⟨k2,h1,h2⟩:=ih _ _ _ _ _ hr
      refine ⟨max k1 k2 + 1,by omega,?_⟩
      simp only [run]
      exact bnd_mk (ropsD_le (call_le T k1 _ (by omega)) hk1) (run_le (call_le T k2 _ (by omega)) k2 _ (by omega) _ _ _ _ _ h2)
     |some v =>
      refine ⟨max k1 n + 1,by omega,?_⟩
      simp only [run]
      exact bnd_mk (ropsD_le (call_le T k1 _ (by omega)) hk1) hr
    |rq gs keep =>
     simp only [run] at hr
     obtain ⟨⟨p,x⟩,h3,hr⟩:=bnd_some hr
     obtain ⟨k1,hk1⟩:=ropsP_cont _ _ _ _ _ _ h3
     cases p with
     |none =>
      obtain ⟨k2,h1,h2⟩:=ih _ _ _ _ _ hr
      refine ⟨max k1 k2 + 1,by omega,?_⟩
      simp only [run]
      exact bnd_mk (ropsP_le (call_le T k1 _ (by omega)) _ _ _ _ _ _ hk1) (run_le (call_le T k2 _ (by omega)) k2 _ (by omega) _ _ _ _ _ h2)
     |some v =>
      refine ⟨max k1 n + 1,by omega,?_⟩
      simp only [run]
      exact bnd_mk (ropsP_le (call_le T k1 _ (by omega)) _ _ _ _ _ _ hk1) hr
    |sq a b=>simp only [run] at hr;obtain ⟨k,h1,h2⟩:=up hr;exact ⟨k + 1,h1,by simpa only [run] using h2⟩
    |cd x a b =>
     simp only [run] at hr
     split at hr
     ·rename_i b' hx
      split at hr
      ·rename_i hb;obtain ⟨k,h1,h2⟩:=up hr;exact ⟨k + 1,h1,by simp only [run,hx];rw [if_pos hb];exact h2⟩
      ·rename_i hb;obtain ⟨k,h1,h2⟩:=up hr;exact ⟨k + 1,h1,by simp only [run,hx];rw [if_neg hb];exact h2⟩
     ·simp at hr
    |bl id c=>simp only [run] at hr;obtain ⟨k,h1,h2⟩:=up hr;exact ⟨k + 1,h1,by simpa only [run] using h2⟩
    |lp t c=>simp only [run] at hr;obtain ⟨k,h1,h2⟩:=up hr;exact ⟨k + 1,h1,by simpa only [run] using h2⟩
    |xt id =>
     simp only [run] at hr
     split at hr
     ·rename_i hx;obtain ⟨k,h1,h2⟩:=up hr;exact ⟨k + 1,h1,by simp only [run,hx];exact h2⟩
     ·rename_i hx;exact ⟨n + 1,Nat.le_refl _,by simp only [run,hx];exact hr⟩
    |rt=>exact ⟨n + 1,Nat.le_refl _,by simpa only [run] using hr⟩
theorem lim_fn {T:Tab} {f:Nat} {d:Fn} (ht:tget T f=some (.fn d)) (hlt:f < RB) (args:List FV) (h:Heap) (nx:Nat):lim T f args h nx=enterWith (runs T) d args h nx:=by
 apply Option.ext
 intro r
 rw [lim_some]
 constructor
 ·rintro ⟨n,hn⟩
  cases n with
  |zero=>simp [call] at hn
  |succ n =>
   simp only [call,ht] at hn
   obtain ⟨_,hn⟩:=chk_some hn
   rw [enter_eq] at hn
   exact enterWith_map (fun m h nx x hx=>runs_some.2 ⟨n,run_le (le_lim T n) n n (Nat.le_refl _) _ _ _ _ _ hx⟩) hn
 ·intro hr
  have key:∃ k,enterWith (fun l m h nx=>run (call T k) k l m h nx) d args h nx=some r:=by
   unfold enterWith at hr ⊢
   obtain ⟨h1,hr⟩:=chk_some hr
   simp only [chk,if_pos h1]
   cases hm:d.mode with
   |iso =>
    rw [hm] at hr
    simp only at hr ⊢
    obtain ⟨h2,hr⟩:=chk_some hr
    obtain ⟨x,h3,hr⟩:=bnd_some hr
    obtain ⟨n,h4⟩:=runs_some.1 h3
    obtain ⟨k,_,h5⟩:=run_cont n _ _ _ _ _ h4
    exact ⟨k,by rw [if_pos h2];exact bnd_mk h5 hr⟩
   |isf =>
    rw [hm] at hr
    simp only at hr ⊢
    obtain ⟨as,h2,hr⟩:=bnd_some hr
    obtain ⟨x,h3,hr⟩:=bnd_some hr
    obtain ⟨n,h4⟩:=runs_some.1 h3
    obtain ⟨k,_,h5⟩:=run_cont n _ _ _ _ _ h4
    exact ⟨k,bnd_mk h2 (bnd_mk h5 hr)⟩
   |isc =>
    rw [hm] at hr
    simp only at hr ⊢
    obtain ⟨as,h2,hr⟩:=bnd_some hr
    obtain ⟨x,h3,hr⟩:=bnd_some hr
    obtain ⟨n,h4⟩:=runs_some.1 h3
    obtain ⟨k,_,h5⟩:=run_cont n _ _ _ _ _ h4
    exact ⟨k,bnd_mk h2 (bnd_mk h5 hr)⟩
   |shr =>
    rw [hm] at hr
    simp only at hr ⊢
    obtain ⟨x,h3,hr⟩:=bnd_some hr
    obtain ⟨n,h4⟩:=runs_some.1 h3
    obtain ⟨k,_,h5⟩:=run_cont n _ _ _ _ _ h4
    exact ⟨k,bnd_mk h5 hr⟩
  obtain ⟨k,hk⟩:=key
  refine ⟨k + 1,?_⟩
  simp only [call,ht]
  rw [chk,if_pos hlt,enter_eq]
  exact hk
section
variable {T:Tab} {k:List I} {m:Tm} {h:Heap} {nx:Nat}
theorem runs_step {l l':List I} {m':Tm} {h':Heap} {nx':Nat} (hs:∀ n,run (lim T) (n + 1) l m h nx=run (lim T) n l' m' h' nx'):runs T l m h nx=runs T l' m' h' nx':=by
 apply Option.ext
 intro r
 rw [runs_some,runs_some]
 constructor
 ·rintro ⟨n,hn⟩
  cases n with
  |zero=>simp [run] at hn
  |succ n=>rw [hs] at hn;exact ⟨n,hn⟩
 ·rintro ⟨n,hn⟩
  exact ⟨n + 1,by rw [hs];exact hn⟩
theorem runs_end {l:List I} {r:Ex × Tm × Heap × Nat} (hs:∀ n,run (lim T) (n + 1) l m h nx=some r):runs T l m h nx=some r:=runs_some.2 ⟨1,hs 0⟩
theorem runs_nil:runs T [] m h nx=some (.fin,m,h,nx):=runs_end fun n=>by simp only [run]
theorem runs_rt:runs T (.code .rt::k) m h nx=some (.ret,m,h,nx):=runs_end fun n=>by simp only [run]
theorem runs_sk:runs T (.code .sk::k) m h nx=runs T k m h nx:=runs_step fun n=>by simp only [run]
theorem runs_inB {id:Nat}:runs T (.inB id::k) m h nx=runs T k m h nx:=runs_step fun n=>by simp only [run]
theorem runs_none {l:List I} (hs:∀ n,run (lim T) (n + 1) l m h nx=none):runs T l m h nx=none:=by
 apply Option.ext
 intro r
 rw [runs_some]
 constructor
 ·rintro ⟨n,hn⟩
  cases n with
  |zero=>simp [run] at hn
  |succ n=>rw [hs] at hn;cases hn
 ·intro hh;cases hh
theorem runs_beg {id:Nat}:runs T (.beg id::k) m h nx=(match hget h id with | some (.lp 0 jp)=>runs T k m (hset h id (.lp 1 jp)) nx | _=>none):=by
 split
 ·rename_i jp hx;exact runs_step fun n=>by simp only [run,hx]
 ·rename_i hx
  refine runs_none fun n=>?_
  simp only [run]
def jpI (jp:Nat) (k:List I):List I :=
 match jp with
 |0=>k
 |1=>.code .rt::k
 |e + 2=>.code (.xt e)::k
noncomputable def rfK (T:Tab) (k:List I) (m:Tm) (nx:Nat) (r:FV × Heap × Nat):Option (Ex × Tm × Heap × Nat) :=
 match hget r.2.1 nx with
 |some (.lp st jp)=>chk (st ≠ 1) (runs T (jpI jp k) m (hset r.2.1 nx (.lp 3 jp)) r.2.2)
 |_=>none
theorem runs_rf {f:Nat} {x:X} {ct:List Nat} {q:Nat} {caps:List FV} (hx:ev m x=.fn q caps) :
  runs T (.code (.rf f x ct)::k) m h nx=bnd (np (lim T) q (.yl f nx (evs m (ct.map .t))::caps) ((nx,.lp 0 0)::h) (nx + 1)) (rfK T k m nx):=by
 cases hl:np (lim T) q (.yl f nx (evs m (ct.map .t))::caps) ((nx,.lp 0 0)::h) (nx + 1) with
 |none=>exact runs_none fun n=>by simp only [run,hx,hl,bnd]
 |some r =>
  simp only [bnd,rfK]
  split
  ·rename_i st jp hg
   unfold chk
   split
   ·rename_i hc
    refine runs_step fun n=>?_
    simp only [run,hx,hl,bnd,hg,chk,if_pos hc]
    match jp with
    |0=>rfl
    |1=>rfl
    |e + 2=>rfl
   ·rename_i hc
    exact runs_none fun n=>by simp only [run,hx,hl,bnd,hg,chk,if_neg hc]
  ·rename_i hg
   refine runs_none fun n=>?_
   simp only [run,hx,hl,bnd]
theorem runs_sq {a b:C}:runs T (.code (.sq a b)::k) m h nx=runs T (.code a::.code b::k) m h nx:=runs_step fun n=>by simp only [run]
theorem runs_bl {id:Nat} {c:C}:runs T (.code (.bl id c)::k) m h nx=runs T (.code c::.inB id::k) m h nx:=runs_step fun n=>by simp only [run]
theorem runs_lp {t:Bool} {c:C}:runs T (.code (.lp t c)::k) m h nx=runs T (.code c::.inL (if t=true then some nx else none) c::k) m h nx:=runs_step fun n=>by simp only [run]
theorem runs_inL0 {c:C}:runs T (.inL none c::k) m h nx=runs T (.code c::.inL none c::k) m h nx:=runs_step fun n=>by simp only [run]
theorem runs_inL {b:Nat} {c:C}:runs T (.inL (some b) c::k) m h nx=chk (b ≤ nx∧lowTm b m=true∧lowHeap b (cutH b h)=true) (runs T (.code c::.inL (some b) c::k) m (cutH b h) b):=by
 unfold chk
 split
 ·rename_i hc
  exact runs_step fun n=>by simp only [run,chk,if_pos hc]
 ·rename_i hc
  apply Option.ext
  intro r
  rw [runs_some]
  constructor
  ·rintro ⟨n,hn⟩
   cases n with
   |zero=>simp [run] at hn
   |succ n=>simp only [run,chk,if_neg hc] at hn;cases hn
  ·intro hh;cases hh
theorem runs_cd {x:X} {a b:C}:runs T (.code (.cd x a b)::k) m h nx=(match ev m x with | .bool t=>if t=true then runs T (.code a::k) m h nx else runs T (.code b::k) m h nx | _=>none):=by
 split
 ·rename_i t hx
  split
  ·rename_i ht;exact runs_step fun n=>by simp only [run,hx];rw [if_pos ht]
  ·rename_i ht;exact runs_step fun n=>by simp only [run,hx];rw [if_neg ht]
 ·rename_i hx
  apply Option.ext
  intro r
  rw [runs_some]
  constructor
  ·rintro ⟨n,hn⟩
   cases n with
   |zero=>simp [run] at hn
   |succ n =>
    simp only [run] at hn
    cases hn
  ·intro hh;cases hh
theorem runs_xt {id:Nat}:runs T (.code (.xt id)::k) m h nx=(match exitTo id k with | some k'=>runs T k' m h nx | none=>some (.xt id,m,h,nx)):=by
 split
 ·rename_i k' hx;exact runs_step fun n=>by simp only [run,hx]
 ·rename_i hx;exact runs_end fun n=>by simp only [run,hx]
theorem runs_rg {d:Option (List Nat)} {gs:List G} {keep:List Nat}:runs T (.code (.rg d gs keep)::k) m h nx=bnd (rops (np (lim T)) nx gs m h (nx + gs.length)) fun x=>runs T k (keepOf x.1 keep) x.2.1 x.2.2:=by
 cases hr:rops (np (lim T)) nx gs m h (nx + gs.length) with
 |none =>
  apply Option.ext
  intro r
  rw [runs_some]
  constructor
  ·rintro ⟨n,hn⟩
   cases n with
   |zero=>simp [run] at hn
   |succ n=>simp only [run,hr,bnd] at hn;cases hn
  ·intro hh;cases hh
 |some x=>exact runs_step fun n=>by simp only [run,hr,bnd]
end
theorem frz_pure {h:Heap} {n:Nat} {v:FV} (hp:pure_ v=true):frz h n v=some v:=by
 cases n<;>simp [frz,hp]
theorem isoCall_of_lim [Sys] {P:Program} {T:Tab} (hT:TabOk P T) {f:Nat} {d:Fn} (ht:tget T f=some (.fn d)) (hm:d.mode=.iso) {args:List FV} {v:FV} {h h':Heap} {nx nx':Nat} (hl:lim T f args h nx=some (v,h',nx')) (hp:isPan v=false):IsoCall P f args v:=by
 obtain ⟨n,hn⟩:=lim_some.1 hl
 cases n with
 |zero=>simp [call] at hn
 |succ n =>
  simp only [call,ht] at hn
  obtain ⟨_,hn⟩:=chk_some hn
  exact (enter_iso (fun f r ct=>(hT.rk f r ct).2) (calOk_call hT n) (stable_call T n).np hT.mix (hT.fn f d ht) hm hn).2.2.2.2.ret hp
end Go.FI
namespace Go.FI
theorem enter_isoE {rn:List I→Tm→Heap→Nat→Option (Ex × Tm × Heap × Nat)} {f:Fn} (hm:f.mode=.iso) {args:List FV} {h:Heap} {nx:Nat} (hn:args.length=f.np) (hp:pures args=true) :
  enterWith rn f args h nx=bnd (rn [.code f.body] (params 0 args) [] 0) fun x=>bnd (finish f x) fun v=>bnd (frz x.2.2.1 deep v) fun r=>some (r,h,nx):=by
 unfold enterWith
 rw [chk,if_pos hn,hm]
 simp only
 rw [chk,if_pos hp]
theorem wrap64 {n:Int} (h1:-9223372036854775808 ≤ n) (h2:n ≤ 9223372036854775807):IntKind.i64.wrap n=n:=by
 simp [IntKind.wrap,IntKind.bits,IntKind.signed]
 omega
theorem tdiv_nn {a b:Int} (h:0 ≤ a):a.tdiv b=a / b:=Int.tdiv_eq_ediv_of_nonneg h
theorem tmod_nn {a b:Int} (h:0 ≤ a):a.tmod b=a % b:=Int.tmod_eq_emod_of_nonneg h
theorem frz_agg {h:Heap} {n:Nat} {cs:List FV} (hp:pure_ (.agg cs)=false):frz h (n + 1) (.agg cs)=bnd (frzs h n cs) fun r=>some (.agg r):=by
 simp [frz,hp]
theorem frz_tup {h:Heap} {n:Nat} {cs:List FV} (hp:pure_ (.tup cs)=false):frz h (n + 1) (.tup cs)=bnd (frzs h n cs) fun r=>some (.tup r):=by
 simp [frz,hp]
theorem frz_sref {h:Heap} {n:Nat} {es id st off len:Nat} (he:es ≠ 0):frz h (n + 1) (.sref es id st off len)=bnd (elems h (.sref es id st off len)) fun xs=>bnd (frzs h n xs) fun r=>some (.lst false r):=by
 simp [frz,pure_,chk,he]
theorem frzs_pure {h:Heap}:∀ {vs:List FV} {n:Nat},pures vs=true→vs.length ≤ n→frzs h n vs=some vs:=by
 intro vs
 induction vs with
 |nil=>intro n _ _;cases n<;>simp [frzs]
 |cons v vs ih =>
  intro n hp hn
  obtain ⟨k,rfl⟩:∃ k,n=k + 1:=⟨n - 1,by simp at hn;omega⟩
  simp only [pures,Bool.and_eq_true] at hp
  simp only [frzs,frz_pure hp.1,bnd,ih hp.2 (by simp at hn;omega)]
end Go.FI
namespace Go.FI
class Cont (α β:Type) where
 f:α→Option β
class Two (α:Type) where
 a:α
 b:α
class Post (α:Type) where
 q:α→Prop
noncomputable section
def B {α β:Type} (x:Option α) [k:Cont α β]:Option β:=bnd x k.f
def If {α:Type} (c:Bool) [k:Two α]:α:=if c=true then k.a else k.b
open Classical in
def Ck {α:Type} (p:Prop) [k:Cont Unit α]:Option α:=if p then k.f () else none
def Ok {α:Type} (e:Option α) [q:Post α]:Prop:=∃ r,e=some r∧q.q r
section
variable {α β γ:Type}
theorem B_some {a:α} {f:α→Option β}:@B α β (some a) ⟨f⟩=f a:=rfl
theorem B_none {f:α→Option β}:@B α β none ⟨f⟩=none:=rfl
theorem B_If {c:Bool} {x y:Option α} {f:α→Option β}:@B α β (@If (Option α) c ⟨x,y⟩) ⟨f⟩=@If (Option β) c ⟨@B α β x ⟨f⟩,@B α β y ⟨f⟩⟩:=by cases c<;>rfl
theorem B_Ck {p:Prop} {x:Unit→Option α} {f:α→Option β}:@B α β (@Ck α p ⟨x⟩) ⟨f⟩=@Ck β p ⟨fun u=>@B α β (x u) ⟨f⟩⟩:=by
 unfold Ck
 split<;>rfl
theorem If_t {x y:α}:@If α true ⟨x,y⟩=x:=rfl
theorem If_f {x y:α}:@If α false ⟨x,y⟩=y:=rfl
theorem If_not {c:Bool} {x y:α}:@If α (!c) ⟨x,y⟩=@If α c ⟨y,x⟩:=by cases c<;>rfl
theorem Ck_pos {p:Prop} {x:Unit→Option α} (h:p):@Ck α p ⟨x⟩=x ():=by unfold Ck;exact if_pos h
theorem Ck_true {x:Unit→Option α}:@Ck α True ⟨x⟩=x ():=Ck_pos trivial
theorem Ok_some {a:α} {q:α→Prop}:@Ok α (some a) ⟨q⟩ ↔ q a:=⟨fun ⟨_,h1,h2⟩=>by cases h1;exact h2,fun h=>⟨_,rfl,h⟩⟩
theorem Ok_if {c:Bool} {x y:Option α} {q:Post α} (h1:c=true→@Ok α x q) (h2:c=false→@Ok α y q):@Ok α (@If (Option α) c ⟨x,y⟩) q:=by
 cases c
 ·exact h2 rfl
 ·exact h1 rfl
theorem Ok_ck {p:Prop} {x:Unit→Option α} {q:Post α} (h:p) (h1:@Ok α (x ()) q):@Ok α (@Ck α p ⟨x⟩) q:=by rw [Ck_pos h];exact h1
theorem Ck_and {p q:Prop} {x:Unit→Option α}:@Ck α (p∧q) ⟨x⟩=@Ck α p ⟨fun _=>@Ck α q ⟨x⟩⟩:=by
 unfold Ck;by_cases hp:p<;>by_cases hq:q<;>simp [hp,hq]
theorem Ck_chk {p:Prop} [Decidable p] {x:Option α}:chk p x=@Ck α p ⟨fun _=>x⟩:=by
 unfold Ck chk
 split<;>rfl
end
def lenV (k:Nat) (_:Heap):FV→Option FV
 |.str s=>@Ck FV (k=0) ⟨fun _=>some (.int .i64 s.length)⟩
 |.lst _ xs=>@Ck FV (k=1) ⟨fun _=>some (.int .i64 xs.length)⟩
 |.sref _ _ _ _ l=>@Ck FV (k=1) ⟨fun _=>some (.int .i64 l)⟩
 |_=>none
section
open IntKind
variable {cal:Call} {id:Nat} {d:Option Nat} {gd:Option (Nat × Bool)} {re:List (Option (Nat × Bool) × Option Nat × Nat × Nat)} {m:Tm} {h:Heap} {nx:Nat} {x y z:X} {r:List G}
theorem rops_v {op:O} {v:Option FV} (he:opg cal id ⟨d,none,op,[]⟩ m h nx=bnd v fun v=>some (v,h,nx)) :
  rops cal id (⟨d,none,op,[]⟩::r) m h nx=@B FV (Tm × Heap × Nat) v ⟨fun v=>rops cal (id + 1) r (put m d v) h nx⟩:=by
 show bnd (some true) _=_
 show bnd (opg cal id ⟨d,none,op,[]⟩ m h nx) _=_
 rw [he]
 cases v<;>rfl
theorem rops_x {op:O} {v:Option (FV × Heap × Nat)} (he:opg cal id ⟨d,none,op,re⟩ m h nx=v) :
  rops cal id (⟨d,none,op,re⟩::r) m h nx=@B (FV × Heap × Nat) (Tm × Heap × Nat) v ⟨fun x=>rechk x.2.1 (put m d x.1) (rops cal (id + 1) r (put m d x.1) x.2.1 x.2.2) re⟩:=by
 show bnd (opg cal id ⟨d,none,op,re⟩ m h nx) _=_
 rw [he]
 rfl
theorem r_nil:rops cal id [] m h nx=some (m,h,nx):=rfl
theorem r_mv:rops cal id (⟨d,none,.mv x,[]⟩::r) m h nx=rops cal (id + 1) r (put m d (ev m x)) h nx:=rfl
theorem r_pk:rops cal id (⟨d,none,.pk x y z,[]⟩::r) m h nx=@B FV (Tm × Heap × Nat) (match ev m x with | .bool c=>some (if c=true then ev m y else ev m z) | _=>none) ⟨fun v=>rops cal (id + 1) r (put m d v) h nx⟩:=rops_v rfl
theorem r_bo {op:BinOp}:rops cal id (⟨d,none,.bo op x y,[]⟩::r) m h nx=@B FV (Tm × Heap × Nat) (binop op (ev m x) (ev m y)) ⟨fun v=>rops cal (id + 1) r (put m d v) h nx⟩:=rops_v rfl
def beV (n:Bool):FV→FV→Option FV
 |.bool a,.bool b=>some (.bool (if n=true then !(a == b) else a == b))
 |_,_=>none
theorem beV_b {n a b:Bool}:beV n (.bool a) (.bool b)=some (.bool (if n=true then !(a == b) else a == b)):=rfl
theorem r_be {n:Bool}:rops cal id (⟨d,none,.be n x y,[]⟩::r) m h nx=@B FV (Tm × Heap × Nat) (beV n (ev m x) (ev m y)) ⟨fun v=>rops cal (id + 1) r (put m d v) h nx⟩:=rops_v rfl
theorem r_eq {n:Bool} {ks:List Nat}:rops cal id (⟨d,none,.eq n ks x y,[]⟩::r) m h nx=@B FV (Tm × Heap × Nat) (match ev m x,ev m y with | .agg a,.agg b=>@B Bool FV (eqCells ks a b) ⟨fun e=>some (.bool (if n=true then !e else e))⟩ | _,_=>none) ⟨fun v=>rops cal (id + 1) r (put m d v) h nx⟩:=rops_v rfl
theorem r_un {op:UnOp}:rops cal id (⟨d,none,.un op x,[]⟩::r) m h nx=@B FV (Tm × Heap × Nat) (unop op (ev m x)) ⟨fun v=>rops cal (id + 1) r (put m d v) h nx⟩:=rops_v rfl
def ixV:FV→FV→Option FV
 |.str s,.int _ n=>@Ck FV (0 ≤ n∧n < s.length) ⟨fun _=>some (.int .u8 (s.getD n.toNat 0).toNat)⟩
 |_,_=>none
theorem ixV_s {s:List UInt8} {k:IntKind} {n:Int}:ixV (.str s) (.int k n)=@Ck FV (0 ≤ n∧n < s.length) ⟨fun _=>some (.int .u8 (s.getD n.toNat 0).toNat)⟩:=rfl
theorem r_ix:rops cal id (⟨d,none,.ix x y,[]⟩::r) m h nx=@B FV (Tm × Heap × Nat) (ixV (ev m x) (ev m y)) ⟨fun v=>rops cal (id + 1) r (put m d v) h nx⟩:=rops_v (by
 show bnd (opv h m (.ix x y)) _=_
 congr 1
 simp only [opv]
 cases ev m x<;>try rfl
 cases ev m y<;>try rfl
 simp only [ixV,Ck_chk])
theorem lenV_s {s:List UInt8}:lenV 0 h (.str s)=some (.int .i64 s.length):=Ck_pos rfl
theorem lenV_l {e:Bool} {xs:List FV}:lenV 1 h (.lst e xs)=some (.int .i64 xs.length):=Ck_pos rfl
theorem lenV_r {es i st off l:Nat}:lenV 1 h (.sref es i st off l)=some (.int .i64 l):=Ck_pos rfl
def mapLen (h:Heap):FV→Option FV
 |.map id=>match hget h id with
  |some (.mp en)=>some (.int .i64 en.length)
  |_=>none
 |.nilm=>some (.int .i64 0)
 |_=>none
theorem r_ln0:rops cal id (⟨d,none,.ln 0 x,[]⟩::r) m h nx=@B FV (Tm × Heap × Nat) (lenV 0 h (ev m x)) ⟨fun v=>rops cal (id + 1) r (put m d v) h nx⟩:=rops_v (by
 show bnd (opv h m (.ln 0 x)) _=_
 congr 1
 simp only [opv]
 cases ev m x<;>simp only [lenV,Ck]<;>simp)
theorem r_ln1:rops cal id (⟨d,none,.ln 1 x,[]⟩::r) m h nx=@B FV (Tm × Heap × Nat) (lenV 1 h (ev m x)) ⟨fun v=>rops cal (id + 1) r (put m d v) h nx⟩:=rops_v (by
 show bnd (opv h m (.ln 1 x)) _=_
 congr 1
 simp only [opv]
 cases ev m x<;>simp only [lenV,Ck]<;>simp)
theorem r_ln2:rops cal id (⟨d,none,.ln 2 x,[]⟩::r) m h nx=@B FV (Tm × Heap × Nat) (mapLen h (ev m x)) ⟨fun v=>rops cal (id + 1) r (put m d v) h nx⟩:=rops_v rfl
def mxV:FV→FV→Option FV
 |.int k x,.int j y=>@Ck FV (k=j) ⟨fun _=>some (.int k (max x y))⟩
 |_,_=>none
def mnV:FV→FV→Option FV
 |.int k x,.int j y=>@Ck FV (k=j) ⟨fun _=>some (.int k (min x y))⟩
 |_,_=>none
theorem mx_i {k:IntKind} {a b:Int}:mxV (.int k a) (.int k b)=some (.int k (max a b)):=Ck_pos rfl
theorem mn_i {k:IntKind} {a b:Int}:mnV (.int k a) (.int k b)=some (.int k (min a b)):=Ck_pos rfl
theorem r_mx:rops cal id (⟨d,none,.mx x y,[]⟩::r) m h nx=@B FV (Tm × Heap × Nat) (mxV (ev m x) (ev m y)) ⟨fun v=>rops cal (id + 1) r (put m d v) h nx⟩:=rops_v (by
 show bnd (opv h m (.mx x y)) _=_
 congr 1
 simp only [opv]
 cases ev m x<;>(try rfl)<;>cases ev m y<;>(try rfl)
 rename_i k a j b
 simp only [mxV]
 rw [show max a b=if a < b then b else a by simp only [Int.max_def];split<;>split<;>omega]
 exact Ck_chk)
theorem r_mn:rops cal id (⟨d,none,.mn x y,[]⟩::r) m h nx=@B FV (Tm × Heap × Nat) (mnV (ev m x) (ev m y)) ⟨fun v=>rops cal (id + 1) r (put m d v) h nx⟩:=rops_v (by
 show bnd (opv h m (.mn x y)) _=_
 congr 1
 simp only [opv]
 cases ev m x<;>(try rfl)<;>cases ev m y<;>(try rfl)
 rename_i k a j b
 simp only [mnV]
 rw [show min a b=if b < a then b else a by simp only [Int.min_def];split<;>split<;>omega]
 exact Ck_chk)
theorem r_cv {k:IntKind}:rops cal id (⟨d,none,.cv k x,[]⟩::r) m h nx=@B FV (Tm × Heap × Nat) (match ev m x with | .int _ n=>some (.int k (k.wrap n)) | _=>none) ⟨fun v=>rops cal (id + 1) r (put m d v) h nx⟩:=rops_v rfl
theorem r_ld {ag:Option Nat}:rops cal id (⟨d,none,.ld ag x,[]⟩::r) m h nx=@B FV (Tm × Heap × Nat) (loadv h ag (ev m x)) ⟨fun v=>rops cal (id + 1) r (put m d v) h nx⟩:=rops_v rfl
def faV (off:Nat):FV→Option FV
 |.ptr id s i o=>some (.ptr id s i (o + off))
 |.eptr cs o=>some (.eptr cs (o + off))
 |_=>none
theorem r_fa {o:Nat}:rops cal id (⟨d,none,.fa o x,[]⟩::r) m h nx=@B FV (Tm × Heap × Nat) (faV o (ev m x)) ⟨fun v=>rops cal (id + 1) r (put m d v) h nx⟩:=rops_v rfl
def fdV (ag:Option Nat) (off:Nat):FV→Option FV
 |.agg cs=>cellsAt cs ag off
 |_=>none
theorem fdV_agg {ag:Option Nat} {off:Nat} {cs:List FV}:fdV ag off (.agg cs)=cellsAt cs ag off:=rfl
theorem r_fd {ag:Option Nat} {o:Nat}:rops cal id (⟨d,none,.fd ag o x,[]⟩::r) m h nx=@B FV (Tm × Heap × Nat) (fdV ag o (ev m x)) ⟨fun v=>rops cal (id + 1) r (put m d v) h nx⟩:=rops_v rfl
def iaV (es:Nat):FV→FV→Option FV
 |.lst _ xs,.int _ n=>@Ck FV (0 ≤ n∧n < xs.length) ⟨fun _=>@Ck FV ((xs.getD n.toNat .undef).cells.length=es) ⟨fun _=>some (.eptr (xs.getD n.toNat .undef).cells 0)⟩⟩
 |.sref es' id s off len,.int _ n=>@Ck FV (es'=es) ⟨fun _=>@Ck FV (0 ≤ n∧n < len) ⟨fun _=>some (.ptr id s (off + n.toNat) 0)⟩⟩
 |_,_=>none
theorem iaV_l {es:Nat} {e:Bool} {xs:List FV} {k:IntKind} {n:Int}:iaV es (.lst e xs) (.int k n)=@Ck FV (0 ≤ n∧n < xs.length) ⟨fun _=>@Ck FV ((xs.getD n.toNat .undef).cells.length=es) ⟨fun _=>some (.eptr (xs.getD n.toNat .undef).cells 0)⟩⟩:=rfl
theorem iaV_r {es es' i s off len:Nat} {k:IntKind} {n:Int}:iaV es (.sref es' i s off len) (.int k n)=@Ck FV (es'=es) ⟨fun _=>@Ck FV (0 ≤ n∧n < len) ⟨fun _=>some (.ptr i s (off + n.toNat) 0)⟩⟩:=rfl
theorem r_ia {es:Nat}:rops cal id (⟨d,none,.ia es x y,[]⟩::r) m h nx=@B FV (Tm × Heap × Nat) (iaV es (ev m x) (ev m y)) ⟨fun v=>rops cal (id + 1) r (put m d v) h nx⟩:=rops_v (by
 show bnd (opv h m (.ia es x y)) _=_
 congr 1
 simp only [opv]
 cases ev m x<;>(try rfl)<;>cases ev m y<;>(try rfl)<;>simp only [iaV,Ck_chk])
def aaV (len es:Nat):FV→FV→Option FV
 |.ptr id s j o,.int _ n=>@Ck FV (0 ≤ n∧n < len) ⟨fun _=>some (.ptr id s j (o + n.toNat * es))⟩
 |.eptr cs o,.int _ n=>@Ck FV (0 ≤ n∧n < len) ⟨fun _=>some (.eptr cs (o + n.toNat * es))⟩
 |_,_=>none
theorem r_aa {n es:Nat}:rops cal id (⟨d,none,.aa n es x y,[]⟩::r) m h nx=@B FV (Tm × Heap × Nat) (aaV n es (ev m x) (ev m y)) ⟨fun v=>rops cal (id + 1) r (put m d v) h nx⟩:=rops_v (by
 show bnd (opv h m (.aa n es x y)) _=_
 congr 1
 simp only [opv]
 cases ev m x<;>(try rfl)<;>cases ev m y<;>(try rfl)<;>simp only [aaV,Ck_chk])
theorem r_nc:rops cal id (⟨d,none,.nc x,[]⟩::r) m h nx=@B FV (Tm × Heap × Nat) (match ev m x with | .ptr i s j o=>some (.ptr i s j o) | .fn f cs=>some (.fn f cs) | .eptr cs o=>some (.eptr cs o) | _=>none) ⟨fun v=>rops cal (id + 1) r (put m d v) h nx⟩:=rops_v rfl
def exV (i:Nat):FV→Option FV
 |.tup vs=>vs[i]?
 |_=>none
theorem exV_t {i:Nat} {vs:List FV}:exV i (.tup vs)=vs[i]? := rfl
theorem r_ex {i:Nat}:rops cal id (⟨d,none,.ex x i,[]⟩::r) m h nx=@B FV (Tm × Heap × Nat) (exV i (ev m x)) ⟨fun v=>rops cal (id + 1) r (put m d v) h nx⟩:=rops_v rfl
def sliceV (es:Nat):FV→Option FV→Option FV→Option FV
 |.str s,lo,hi=>@B Int FV (match hi with | none=>some (s.length:Int) | some v=>asInt v) ⟨fun h=>@B Int FV (match lo with | none=>some 0 | some v=>asInt v) ⟨fun l =>
   @Ck FV (es=0∧0 ≤ l∧l ≤ h∧h ≤ s.length) ⟨fun _=>some (.str (cut s l.toNat h.toNat))⟩⟩⟩
 |.lst e xs,lo,hi=>@B Int FV (match hi with | none=>some (xs.length:Int) | some v=>asInt v) ⟨fun h=>@B Int FV (match lo with | none=>some 0 | some v=>asInt v) ⟨fun l =>
   @Ck FV ((es ≠ 0∧0 ≤ l∧l ≤ h∧h ≤ xs.length)∧lstOk es xs=true) ⟨fun _=>some (.lst (e && decide (h=xs.length)) (cut xs l.toNat h.toNat))⟩⟩⟩
 |.sref es' id stamp off len,lo,hi=>@B Int FV (match hi with | none=>some (len:Int) | some v=>asInt v) ⟨fun h=>@B Int FV (match lo with | none=>some 0 | some v=>asInt v) ⟨fun l =>
   @Ck FV (es'=es∧es ≠ 0∧0 ≤ l∧l ≤ h∧h ≤ len) ⟨fun _=>some (.sref es id stamp (off + l.toNat) (h.toNat - l.toNat))⟩⟩⟩
 |_,_,_=>none
def optV (m:Tm):Option X→Option FV
 |none=>none
 |some x=>some (ev m x)
theorem slice_V {es:Nat} {v:FV} {lo hi:Option X}:slice m es v lo hi=sliceV es v (optV m lo) (optV m hi):=by
 cases v<;>(try rfl)<;>cases lo<;>cases hi<;>simp only [slice,sliceV,optInt,optV,B,Ck_chk]
def idxV (d:Int):Option FV→Option Int
 |none=>some d
 |some v=>asInt v
theorem idx_n {d:Int}:idxV d none=some d:=rfl
theorem idx_s {d n:Int} {k:IntKind}:idxV d (some (.int k n))=some n:=rfl
theorem sl_str {es:Nat} {s:List UInt8} {lo hi:Option FV}:sliceV es (.str s) lo hi=@B Int FV (idxV s.length hi) ⟨fun h=>@B Int FV (idxV 0 lo) ⟨fun l =>
   @Ck FV (es=0∧0 ≤ l∧l ≤ h∧h ≤ s.length) ⟨fun _=>some (.str (cut s l.toNat h.toNat))⟩⟩⟩:=by cases lo<;>cases hi<;>rfl
theorem sl_lst {es:Nat} {e:Bool} {xs:List FV} {lo hi:Option FV}:sliceV es (.lst e xs) lo hi=@B Int FV (idxV xs.length hi) ⟨fun h=>@B Int FV (idxV 0 lo) ⟨fun l =>
   @Ck FV (es ≠ 0∧0 ≤ l∧l ≤ h∧h ≤ xs.length) ⟨fun _=>@Ck FV (lstOk es xs=true) ⟨fun _=>some (.lst (e && decide (h=xs.length)) (cut xs l.toNat h.toNat))⟩⟩⟩⟩:=by cases lo<;>cases hi<;>simp only [sliceV,idxV,B,Ck_and]
theorem sl_ref {es es' i st off len:Nat} {lo hi:Option FV}:sliceV es (.sref es' i st off len) lo hi=@B Int FV (idxV len hi) ⟨fun h=>@B Int FV (idxV 0 lo) ⟨fun l =>
   @Ck FV (es'=es∧es ≠ 0∧0 ≤ l∧l ≤ h∧h ≤ len) ⟨fun _=>some (.sref es i st (off + l.toNat) (h.toNat - l.toNat))⟩⟩⟩:=by cases lo<;>cases hi<;>rfl
theorem r_sl {es:Nat} {lo hi:Option X}:rops cal id (⟨d,none,.sl es x lo hi,[]⟩::r) m h nx=@B FV (Tm × Heap × Nat) (sliceV es (ev m x) (optV m lo) (optV m hi)) ⟨fun v=>rops cal (id + 1) r (put m d v) h nx⟩:=rops_v (by
 rw [← slice_V];rfl)
def fillV:List FV→List (Nat × Nat × FV)→Option (List FV)
 |cs,[]=>some cs
 |cs,(off,sz,v)::ps=>@Ck (List FV) (v.ok=true∧v.cells.length=sz∧off + sz ≤ cs.length) ⟨fun _=>fillV (splice cs off v.cells) ps⟩
def evps (m:Tm):List (Nat × Nat × X)→List (Nat × Nat × FV)
 |[]=>[]
 |(a,b,x)::r=>(a,b,ev m x)::evps m r
theorem fill_V:∀ (ps:List (Nat × Nat × X)) (cs:List FV),fillCells m cs ps=fillV cs (evps m ps):=by
 intro ps
 induction ps with
 |nil=>intro cs;rfl
 |cons p ps ih =>
  obtain ⟨a,b,x⟩:=p
  intro cs
  simp only [fillCells,fillV,evps,Ck_chk,ih]
theorem fillV_nil {cs:List FV}:fillV cs []=some cs:=rfl
theorem fillV_cons {cs:List FV} {off sz:Nat} {v:FV} {ps:List (Nat × Nat × FV)}:fillV cs ((off,sz,v)::ps)=@Ck (List FV) (v.ok=true∧v.cells.length=sz∧off + sz ≤ cs.length) ⟨fun _=>fillV (splice cs off v.cells) ps⟩:=rfl
theorem r_bd {zc:List FV} {ps:List (Nat × Nat × X)}:rops cal id (⟨d,none,.bd zc ps,[]⟩::r) m h nx=@B (List FV) (Tm × Heap × Nat) (fillV zc (evps m ps)) ⟨fun v=>rops cal (id + 1) r (put m d (.agg v)) h nx⟩:=by
 rw [rops_v (v:=bnd (fillCells m zc ps) fun cs=>some (.agg cs)) rfl,fill_V]
 cases fillV zc (evps m ps)<;>rfl
theorem r_mf {f:Nat} {cs:List X}:rops cal id (⟨d,none,.mf f cs,[]⟩::r) m h nx=rops cal (id + 1) r (put m d (.fn f (evs m cs))) h nx:=rfl
theorem r_mi {t:Nat}:rops cal id (⟨d,none,.mi t x,[]⟩::r) m h nx=rops cal (id + 1) r (put m d (.ifc t (ev m x))) h nx:=rfl
def sxV:FV→FV→Option FV
 |.str a,.str b=>some (.int .i64 (Lib.compareBytes a b))
 |_,_=>none
theorem sx_s {a b:List UInt8}:sxV (.str a) (.str b)=some (.int .i64 (Lib.compareBytes a b)):=rfl
theorem r_sx:rops cal id (⟨d,none,.sx x y,[]⟩::r) m h nx=@B FV (Tm × Heap × Nat) (sxV (ev m x) (ev m y)) ⟨fun v=>rops cal (id + 1) r (put m d v) h nx⟩:=rops_v (by
 show bnd (opv h m (.sx x y)) _=_
 congr 1)
theorem r_bx {es:Nat}:rops cal id (⟨d,none,.bx es x,[]⟩::r) m h nx=@Ck (Tm × Heap × Nat) ((ev m x).ok=true∧(ev m x).cells.length=es) ⟨fun _=>rops cal (id + 1) r (put m d (.ptr id 1 0 0)) ((id,.row es [ev m x])::h) nx⟩:=by
 show bnd (bnd (chk _ _) _) _=_
 unfold chk Ck
 split<;>rfl
theorem r_al {es:Nat} {zv:FV}:rops cal id (⟨d,none,.al es zv,[]⟩::r) m h nx=rops cal (id + 1) r (put m d (.ptr id 1 0 0)) ((id,.row es [zv])::h) nx:=rfl
def fillE (es:Nat):List FV→List (Nat × FV)→Option (List FV)
 |xs,[]=>some xs
 |xs,(i,v)::ps=>@Ck (List FV) (v.ok=true∧i < xs.length∧v.cells.length=es) ⟨fun _=>fillE es (xs.set i v) ps⟩
def evpe (m:Tm):List (Nat × X)→List (Nat × FV)
 |[]=>[]
 |(a,x)::r=>(a,ev m x)::evpe m r
theorem fill_E {es:Nat}:∀ (ps:List (Nat × X)) (cs:List FV),fillElems m es cs ps=fillE es cs (evpe m ps):=by
 intro ps
 induction ps with
 |nil=>intro cs;rfl
 |cons p ps ih =>
  obtain ⟨a,x⟩:=p
  intro cs
  simp only [fillElems,fillE,evpe,Ck_chk,ih]
theorem fillE_nil {es:Nat} {cs:List FV}:fillE es cs []=some cs:=rfl
theorem fillE_cons {es:Nat} {cs:List FV} {i:Nat} {v:FV} {ps:List (Nat × FV)}:fillE es cs ((i,v)::ps)=@Ck (List FV) (v.ok=true∧i < cs.length∧v.cells.length=es) ⟨fun _=>fillE es (cs.set i v) ps⟩:=rfl
theorem r_bs {es n:Nat} {zv:FV} {ps:List (Nat × X)}:rops cal id (⟨d,none,.bs es n zv ps,[]⟩::r) m h nx=@B (List FV) (Tm × Heap × Nat) (fillE es (List.replicate n zv) (evpe m ps)) ⟨fun xs=>rops cal (id + 1) r (put m d (.sref es id n 0 n)) ((id,.row es xs)::h) nx⟩:=by
 rw [← fill_E]
 show bnd (bnd (bnd (fillElems m es (List.replicate n zv) ps) _) _) _=_
 cases fillElems m es (List.replicate n zv) ps<;>rfl
def msV (es:Nat) (zv:FV) (id:Nat):FV→FV→Option (Obj × FV)
 |.int _ n,.int _ c=>@Ck (Obj × FV) (0 ≤ n∧n ≤ c∧c ≤ 1073741824) ⟨fun _=>some (.row es (List.replicate n.toNat zv),.sref es id n.toNat 0 n.toNat)⟩
 |_,_=>none
theorem msV_i {es:Nat} {zv:FV} {k j:IntKind} {n c:Int}:msV es zv id (.int k n) (.int j c)=@Ck (Obj × FV) (0 ≤ n∧n ≤ c∧c ≤ 1073741824) ⟨fun _=>some (.row es (List.replicate n.toNat zv),.sref es id n.toNat 0 n.toNat)⟩:=rfl
theorem r_ms {es:Nat} {zv:FV}:rops cal id (⟨d,none,.ms es zv x y,[]⟩::r) m h nx=@B (Obj × FV) (Tm × Heap × Nat) (msV es zv id (ev m x) (ev m y)) ⟨fun o=>rops cal (id + 1) r (put m d o.2) ((id,o.1)::h) nx⟩:=by
 have e:opn m id (.ms es zv x y)=msV es zv id (ev m x) (ev m y):=by
  simp only [opn]
  cases ev m x<;>(try rfl)<;>cases ev m y<;>(try rfl)<;>simp only [msV,Ck_chk]
 show bnd (bnd (opn m id (.ms es zv x y)) _) _=_
 rw [e]
 cases msV es zv id (ev m x) (ev m y)<;>rfl
theorem r_nl {es:Nat}:rops cal id (⟨d,none,.nl es,[]⟩::r) m h nx=rops cal (id + 1) r (put m d (.sref es id 0 0 0)) ((id,.row es [])::h) nx:=rfl
theorem r_mm:rops cal id (⟨d,none,.mm,[]⟩::r) m h nx=rops cal (id + 1) r (put m d (.map id)) ((id,.mp [])::h) nx:=rfl
theorem r_st {sz:Nat}:rops cal id (⟨d,none,.st sz x y,re⟩::r) m h nx=@B Heap (Tm × Heap × Nat) (storev h sz (ev m y) (ev m x)) ⟨fun h'=>rechk h' (put m d .undef) (rops cal (id + 1) r (put m d .undef) h' nx) re⟩:=by
 rw [rops_x (v:=bnd (storev h sz (ev m y) (ev m x)) fun h'=>some (.undef,h',nx)) rfl]
 cases storev h sz (ev m y) (ev m x)<;>rfl
theorem r_ap {es b:Nat}:rops cal id (⟨d,none,.ap es b x y,re⟩::r) m h nx=@B (FV × Heap) (Tm × Heap × Nat) (append h id es b (ev m x) (ev m y)) ⟨fun p=>rechk p.2 (put m d p.1) (rops cal (id + 1) r (put m d p.1) p.2 nx) re⟩:=by
 rw [rops_x (v:=bnd (append h id es b (ev m x) (ev m y)) fun p=>some (p.1,p.2,nx)) rfl]
 cases append h id es b (ev m x) (ev m y)<;>rfl
theorem r_lk {kt:Nat} {zv:FV} {ok:Bool}:rops cal id (⟨d,none,.lk kt zv ok x y,[]⟩::r) m h nx=@B FV (Tm × Heap × Nat) (lookup h kt zv ok (ev m y) (ev m x)) ⟨fun v=>rops cal (id + 1) r (put m d v) h nx⟩:=rops_v rfl
def muV (h:Heap) (kt:Nat) (k v:FV):FV→Option Heap
 |.map i=>match hget h i with
  |some (.mp en)=>@B (List (FV × FV)) Heap (update kt k v en) ⟨fun en'=>some (hset h i (.mp en'))⟩
  |_=>none
 |_=>none
theorem r_mu {kt:Nat}:rops cal id (⟨d,none,.mu kt x y z,re⟩::r) m h nx=@B Heap (Tm × Heap × Nat) (muV h kt (ev m y) (ev m z) (ev m x)) ⟨fun h'=>rechk h' (put m d .undef) (rops cal (id + 1) r (put m d .undef) h' nx) re⟩:=by
 rw [rops_x (v:=bnd (muV h kt (ev m y) (ev m z) (ev m x)) fun h'=>some (.undef,h',nx))]
 ·cases muV h kt (ev m y) (ev m z) (ev m x)<;>rfl
 ·simp only [opg]
  cases ev m x<;>try rfl
  simp only [muV]
  rename_i i
  cases hget h i with
  |none=>rfl
  |some o =>
   cases o with
   |row _ _=>rfl
   |lp _ _=>rfl
   |fro _ _=>rfl
   |fmp _=>rfl
   |sit _ _=>rfl
   |mit=>rfl
   |mp en=>simp only [B];cases update kt (ev m y) (ev m z) en<;>rfl
theorem r_cl {f:Nat} {as:List X}:rops cal id (⟨d,none,.cl f as,re⟩::r) m h nx=@B (FV × Heap × Nat) (Tm × Heap × Nat) (cal f (evs m as) h nx) ⟨fun p=>rechk p.2.1 (put m d p.1) (rops cal (id + 1) r (put m d p.1) p.2.1 p.2.2) re⟩:=rops_x rfl
def cwV (cal:Call) (h:Heap) (nx:Nat) (as:List FV):FV→Option (FV × Heap × Nat)
 |.fn f caps=>if f < OB then cal f (as ++ caps) h nx else cal (f - OB) (caps ++ as) h nx
 |.yl f i caps=>cal f (.yl f i caps::as) h nx
 |_=>none
theorem cw_y {f i:Nat} {as caps:List FV}:cwV cal h nx as (.yl f i caps)=cal f (.yl f i caps::as) h nx:=rfl
theorem cw_f {f:Nat} {as caps:List FV} (hlt:f < 2000000):cwV cal h nx as (.fn f caps)=cal f (as ++ caps) h nx:=if_pos hlt
theorem cw_b {f:Nat} {as caps:List FV} (hge:2000000 ≤ f):cwV cal h nx as (.fn f caps)=cal (f - 2000000) (caps ++ as) h nx:=if_neg (Nat.not_lt.2 hge)
theorem r_cw {as:List X}:rops cal id (⟨d,none,.cw x as,re⟩::r) m h nx=@B (FV × Heap × Nat) (Tm × Heap × Nat) (cwV cal h nx (evs m as) (ev m x)) ⟨fun p=>rechk p.2.1 (put m d p.1) (rops cal (id + 1) r (put m d p.1) p.2.1 p.2.2) re⟩:=rops_x rfl
def wantB (v:FV) (c:Bool):Option Bool :=
 match v with
 |.bool b=>some (if c=true then b else !b)
 |.tup []=>some false
 |_=>none
theorem wantB_1 {b:Bool}:wantB (.bool b) true=some b:=rfl
theorem wantB_0 {b:Bool}:wantB (.bool b) false=some (!b):=rfl
theorem wantB_t {c:Bool}:wantB (.tup []) c=some false:=rfl
theorem wanted_B {t:Nat} {c:Bool}:wanted m (some (t,c))=wantB (gt m t) c:=by
 have e:∀ b c:Bool,some (b == c)=some (if c=true then b else !b):=by decide
 show (match gt m t with | .bool c'=>some (c' == c) | .tup []=>some false | _=>none)=wantB (gt m t) c
 generalize gt m t=v
 cases v with
 |bool b=>exact e b c
 |tup vs=>cases vs<;>rfl
 |_=>rfl
theorem r_gd {op:O} {t:Nat} {c:Bool}:rops cal id (⟨d,some (t,c),op,re⟩::r) m h nx =
  @B Bool (Tm × Heap × Nat) (wantB (gt m t) c) ⟨fun b=>@If (Option (Tm × Heap × Nat)) b ⟨rops cal id (⟨d,none,op,re⟩::r) m h nx,rops cal (id + 1) r (put m d (.tup [])) h nx⟩⟩:=by
 rw [← wanted_B]
 simp only [rops]
 cases wanted m (some (t,c)) with
 |none=>rfl
 |some b=>cases b<;>rfl
theorem k_nil {α:Type} {q:Option α}:rechk h m q []=q:=rfl
theorem k_cons {α:Type} {q:Option α} {ag:Option Nat} {n t:Nat} {l:List (Option (Nat × Bool) × Option Nat × Nat × Nat)}:rechk h m q ((none,ag,n,t)::l)=@B FV α (loadv h ag (gt m n)) ⟨fun v=>@Ck α (eqv v (gt m t)=true) ⟨fun _=>rechk h m q l⟩⟩:=by
 show chk (still h m (.ld ag (.t n)) t=true) (rechk h m q l)=_
 have e:opv h m (.ld ag (.t n))=loadv h ag (gt m n):=rfl
 simp only [still,e]
 cases loadv h ag (gt m n) with
 |none=>rfl
 |some v=>exact Ck_chk
theorem k_gd {α:Type} {q:Option α} {t':Nat} {c:Bool} {ag:Option Nat} {n t:Nat} {l:List (Option (Nat × Bool) × Option Nat × Nat × Nat)}:rechk h m q ((some (t',c),ag,n,t)::l)=@B Bool α (wantB (gt m t') c) ⟨fun b=>@If (Option α) b ⟨rechk h m q ((none,ag,n,t)::l),rechk h m q l⟩⟩:=by
 rw [← wanted_B]
 simp only [rechk]
 cases wanted m (some (t',c)) with
 |none=>rfl
 |some b=>cases b<;>rfl
theorem b_add {k:IntKind} {a b:Int}:binop .add (.int k a) (.int k b)=some (.int k (k.wrap (a + b))):=by simp [binop,intBin,chk]
theorem b_sub {k:IntKind} {a b:Int}:binop .sub (.int k a) (.int k b)=some (.int k (k.wrap (a - b))):=by simp [binop,intBin,chk]
theorem b_mul {k:IntKind} {a b:Int}:binop .mul (.int k a) (.int k b)=some (.int k (k.wrap (a * b))):=by simp [binop,intBin,chk]
theorem b_quo {k:IntKind} {a b:Int}:binop .quo (.int k a) (.int k b)=@Ck FV (b ≠ 0) ⟨fun _=>some (.int k (k.wrap (a.tdiv b)))⟩:=by simp [binop,intBin,chk,Ck]
theorem b_rem {k:IntKind} {a b:Int}:binop .rem (.int k a) (.int k b)=@Ck FV (b ≠ 0) ⟨fun _=>some (.int k (a.tmod b))⟩:=by simp [binop,intBin,chk,Ck]
theorem b_and {k:IntKind} {a b:Int}:binop .and (.int k a) (.int k b)=some (.int k (band k a b)):=by simp [binop,intBin,chk]
theorem b_or {k:IntKind} {a b:Int}:binop .or (.int k a) (.int k b)=some (.int k (bor k a b)):=by simp [binop,intBin,chk]
theorem b_xor {k:IntKind} {a b:Int}:binop .xor (.int k a) (.int k b)=some (.int k (bxor k a b)):=by simp [binop,intBin,chk]
theorem b_andNot {k:IntKind} {a b:Int}:binop .andNot (.int k a) (.int k b)=some (.int k (bandnot k a b)):=by simp [binop,intBin,chk]
theorem b_shl {k j:IntKind} {a b:Int}:binop .shl (.int k a) (.int j b)=@Ck FV (0 ≤ b) ⟨fun _=>some (.int k (shl k a b))⟩:=by simp [binop,chk,Ck]
theorem b_shr {k j:IntKind} {a b:Int}:binop .shr (.int k a) (.int j b)=@Ck FV (0 ≤ b) ⟨fun _=>some (.int k (shr k a b))⟩:=by simp [binop,chk,Ck]
theorem b_eql {k:IntKind} {a b:Int}:binop .eql (.int k a) (.int k b)=some (.bool (decide (a=b))):=by
 simp only [binop,chk,if_true,intBin];congr 2
theorem b_neq {k:IntKind} {a b:Int}:binop .neq (.int k a) (.int k b)=some (.bool (!decide (a=b))):=by
 simp only [binop,chk,if_true,intBin];congr 2
theorem b_lss {k:IntKind} {a b:Int}:binop .lss (.int k a) (.int k b)=some (.bool (decide (a < b))):=by simp [binop,intBin,chk]
theorem b_leq {k:IntKind} {a b:Int}:binop .leq (.int k a) (.int k b)=some (.bool (decide (a ≤ b))):=by simp [binop,intBin,chk]
theorem b_gtr {k:IntKind} {a b:Int}:binop .gtr (.int k a) (.int k b)=some (.bool (decide (b < a))):=by simp [binop,intBin,chk]
theorem b_geq {k:IntKind} {a b:Int}:binop .geq (.int k a) (.int k b)=some (.bool (decide (b ≤ a))):=by simp [binop,intBin,chk]
theorem b_sadd {a b:List UInt8}:binop .add (.str a) (.str b)=@Ck FV (a.length + b.length ≤ 4611686018427387904) ⟨fun _=>some (.str (a ++ b))⟩:=by simp [binop,strBin,chk,Ck]
theorem b_seql {a b:List UInt8}:binop .eql (.str a) (.str b)=some (.bool (a == b)):=rfl
theorem b_sneq {a b:List UInt8}:binop .neq (.str a) (.str b)=some (.bool (!(a == b))):=rfl
theorem b_slss {a b:List UInt8}:binop .lss (.str a) (.str b)=some (.bool (Op.bytesLess a b)):=rfl
theorem b_sleq {a b:List UInt8}:binop .leq (.str a) (.str b)=some (.bool (Op.bytesLess a b || a == b)):=rfl
theorem b_sgtr {a b:List UInt8}:binop .gtr (.str a) (.str b)=some (.bool !(Op.bytesLess a b || a == b)):=rfl
theorem b_sgeq {a b:List UInt8}:binop .geq (.str a) (.str b)=some (.bool !(Op.bytesLess a b)):=rfl
theorem u_neg {k:IntKind} {a:Int}:unop .neg (.int k a)=some (.int k (k.wrap (0 - a))):=rfl
theorem u_not {b:Bool}:unop .not (.bool b)=some (.bool !b):=rfl
theorem u_xor {k:IntKind} {a:Int}:unop .xor (.int k a)=some (.int k (bxor k (if k.signed then -1 else k.max) a)):=rfl
theorem ld_e {cs:List FV} {o:Nat} {ag:Option Nat}:loadv h ag (.eptr cs o)=cellsAt cs ag o:=rfl
def ldRow (st j:Nat) (ag:Option Nat) (o:Nat):Option Obj→Option FV
 |some (.row _ xs)=>@Ck FV (xs.length=st) ⟨fun _=>@B FV FV xs[j]? ⟨fun e=>cellsAt e.cells ag o⟩⟩
 |some (.fro _ xs)=>@Ck FV (xs.length=st) ⟨fun _=>@B FV FV xs[j]? ⟨fun e=>cellsAt e.cells ag o⟩⟩
 |_=>none
theorem ldRow_r {st j o es:Nat} {ag:Option Nat} {xs:List FV}:ldRow st j ag o (some (.row es xs))=@Ck FV (xs.length=st) ⟨fun _=>@B FV FV xs[j]? ⟨fun e=>cellsAt e.cells ag o⟩⟩:=rfl
theorem ldRow_f {st j o es:Nat} {ag:Option Nat} {xs:List FV}:ldRow st j ag o (some (.fro es xs))=@Ck FV (xs.length=st) ⟨fun _=>@B FV FV xs[j]? ⟨fun e=>cellsAt e.cells ag o⟩⟩:=rfl
theorem ld_p {i st j o:Nat} {ag:Option Nat}:loadv h ag (.ptr i st j o)=ldRow st j ag o (hget h i):=by
 simp only [loadv]
 cases hget h i with
 |none=>rfl
 |some q=>cases q<;>first | rfl | exact Ck_chk
def stRow (h:Heap) (sz:Nat) (v:FV) (id st j o:Nat):Option Obj→Option Heap
 |some (.row es xs)=>@Ck Heap (xs.length=st∧v.ok=true∧v.cells.length=sz) ⟨fun _=>@B FV Heap xs[j]? ⟨fun e=>@Ck Heap (o + sz ≤ e.cells.length) ⟨fun _=>some (hset h id (.row es (xs.set j (reshape e (splice e.cells o v.cells)))))⟩⟩⟩
 |_=>none
theorem stRow_r {sz id st j o es:Nat} {v:FV} {xs:List FV}:stRow h sz v id st j o (some (.row es xs))=@Ck Heap (xs.length=st∧v.ok=true∧v.cells.length=sz) ⟨fun _=>@B FV Heap xs[j]? ⟨fun e=>@Ck Heap (o + sz ≤ e.cells.length) ⟨fun _=>some (hset h id (.row es (xs.set j (reshape e (splice e.cells o v.cells)))))⟩⟩⟩:=rfl
theorem st_p {i st j o sz:Nat} {v:FV}:storev h sz v (.ptr i st j o)=stRow h sz v i st j o (hget h i):=by
 simp only [storev]
 cases hget h i with
 |none=>rfl
 |some q =>
  cases q with
  |mp en=>rfl
  |fro _ _=>rfl
  |fmp _=>rfl
  |sit _ _=>rfl
  |mit=>rfl
  |lp _ _=>rfl
  |row es xs =>
   show chk _ (bnd _ fun e=>chk _ _)=_
   rw [Ck_chk,stRow_r]
   congr 2
   funext _
   show bnd _ _=bnd _ _
   congr 1
   funext e
   exact Ck_chk
theorem resh_a {a cs:List FV}:reshape (.agg a) cs=.agg cs:=rfl
theorem resh_i {k:IntKind} {n:Int} {c:FV} {cs:List FV}:reshape (.int k n) (c::cs)=c:=rfl
theorem resh_b {b:Bool} {c:FV} {cs:List FV}:reshape (.bool b) (c::cs)=c:=rfl
theorem resh_s {b:List UInt8} {c:FV} {cs:List FV}:reshape (.str b) (c::cs)=c:=rfl
theorem resh_l {b:Bool} {xs:List FV} {c:FV} {cs:List FV}:reshape (.lst b xs) (c::cs)=c:=rfl
theorem resh_r {a b e d f:Nat} {c:FV} {cs:List FV}:reshape (.sref a b e d f) (c::cs)=c:=rfl
def elRow (st off len:Nat):Option Obj→Option (List FV)
 |some (.row _ xs)=>@Ck (List FV) (xs.length=st∧off + len ≤ st) ⟨fun _=>some (cut xs off (off + len))⟩
 |some (.fro _ xs)=>@Ck (List FV) (xs.length=st∧off + len ≤ st) ⟨fun _=>some (cut xs off (off + len))⟩
 |_=>none
theorem elRow_r {st off len es:Nat} {xs:List FV}:elRow st off len (some (.row es xs))=@Ck (List FV) (xs.length=st∧off + len ≤ st) ⟨fun _=>some (cut xs off (off + len))⟩:=rfl
theorem elRow_f {st off len es:Nat} {xs:List FV}:elRow st off len (some (.fro es xs))=@Ck (List FV) (xs.length=st∧off + len ≤ st) ⟨fun _=>some (cut xs off (off + len))⟩:=rfl
theorem el_r {es i st off len:Nat}:elems h (.sref es i st off len)=elRow st off len (hget h i):=by
 simp only [elems]
 cases hget h i with
 |none=>rfl
 |some q=>cases q<;>first | rfl | exact Ck_chk
theorem el_l {e:Bool} {xs:List FV}:elems h (.lst e xs)=some xs:=rfl
theorem el_s {b:List UInt8}:elems h (.str b)=some (b.map fun c=>.int .u8 c.toNat):=rfl
def apRow (h:Heap) (es by_ es' i st off len:Nat) (ys:List FV):Option Obj→Option (FV × Heap)
 |some (.row _ xs)=>@Ck (FV × Heap) (es'=es∧xs.length=st∧off + len ≤ st∧(off + len + ys.length) * by_ ≤ most) ⟨fun _ =>
   @If (Option (FV × Heap)) (decide (ys.length=0)) ⟨some (.sref es i st off len,h),
    @If (Option (FV × Heap)) (decide (off + len + ys.length ≤ st)) ⟨some (.sref es i st off (len + ys.length),hset h i (.row es (xs.take (off + len) ++ ys ++ xs.drop (off + len + ys.length)))),
     @Ck (FV × Heap) (off=0) ⟨fun _=>some (.sref es i (len + ys.length) 0 (len + ys.length),hset h i (.row es (xs.take len ++ ys)))⟩⟩⟩⟩
 |_=>none
theorem apRow_r {es by_ es' i st off len e:Nat} {ys xs:List FV}:apRow h es by_ es' i st off len ys (some (.row e xs))=@Ck (FV × Heap) (es'=es∧xs.length=st∧off + len ≤ st∧(off + len + ys.length) * by_ ≤ most) ⟨fun _ =>
   @If (Option (FV × Heap)) (decide (ys.length=0)) ⟨some (.sref es i st off len,h),
    @If (Option (FV × Heap)) (decide (off + len + ys.length ≤ st)) ⟨some (.sref es i st off (len + ys.length),hset h i (.row es (xs.take (off + len) ++ ys ++ xs.drop (off + len + ys.length)))),
     @Ck (FV × Heap) (off=0) ⟨fun _=>some (.sref es i (len + ys.length) 0 (len + ys.length),hset h i (.row es (xs.take len ++ ys)))⟩⟩⟩⟩:=rfl
theorem ap_r {id es by_ es' i st off len:Nat} {y:FV}:append h id es by_ (.sref es' i st off len) y=@B (List FV) (FV × Heap) (elems h y) ⟨fun ys=>@Ck (FV × Heap) (ys.all FV.ok=true∧(ys.all fun v=>v.cells.length == es)=true) ⟨fun _=>apRow h es by_ es' i st off len ys (hget h i)⟩⟩:=by
 unfold append
 show bnd _ _=bnd _ _
 congr 1
 funext ys
 rw [Ck_chk]
 congr 1
 congr 1
 funext _
 show (match hget h i with
   |some (.row _ xs)=>chk (es'=es∧xs.length=st∧off + len ≤ st∧(off + len + ys.length) * by_ ≤ most) <|
     if ys.length=0 then some (FV.sref es i st off len,h)
     else if off + len + ys.length ≤ st then
      some (FV.sref es i st off (len + ys.length),hset h i (.row es (xs.take (off + len) ++ ys ++ xs.drop (off + len + ys.length))))
     else chk (off=0) (some (FV.sref es i (len + ys.length) 0 (len + ys.length),hset h i (.row es (xs.take len ++ ys))))
   |_=>none:Option (FV × Heap))=_
 cases hget h i with
 |none=>rfl
 |some q =>
  cases q with
  |mp en=>rfl
  |fro _ _=>rfl
  |fmp _=>rfl
  |sit _ _=>rfl
  |mit=>rfl
  |lp _ _=>rfl
  |row e xs =>
   show chk _ _=_
   rw [Ck_chk,apRow_r]
   congr 2
   funext _
   unfold If
   rw [Ck_chk]
   simp only [decide_eq_true_eq]
theorem hset_self {i:Nat} {o:Obj}:∀ {h:Heap},hget h i=some o→hset h i o=h:=by
 intro h
 induction h with
 |nil=>intro hh;cases hh
 |cons p h ih =>
  obtain ⟨j,v⟩:=p
  intro hh
  simp only [hget] at hh
  simp only [hset]
  split
  ·rename_i e
   rw [if_pos e] at hh
   cases hh
   rw [e]
  ·rename_i e
   rw [if_neg e] at hh
   rw [ih hh]
theorem eqc_n:eqCells [] [] []=some true:=rfl
theorem eqc_c {k:Nat} {ks:List Nat} {a b:FV} {r q:List FV}:eqCells (k::ks) (a::r) (b::q)=@B Bool Bool (eqCell k a b) ⟨fun e=>@B Bool Bool (eqCells ks r q) ⟨fun f=>some (e && f)⟩⟩:=rfl
theorem eqc_0 {k:IntKind} {a b:Int}:eqCell 0 (.int k a) (.int k b)=some (a == b):=if_pos rfl
theorem eqc_1 {a b:List UInt8}:eqCell 1 (.str a) (.str b)=some (a == b):=rfl
theorem eqc_2 {a b:Bool}:eqCell 2 (.bool a) (.bool b)=some (a == b):=rfl
theorem apRow_full {es by_ i n:Nat} {ys xs:List FV} (hh:hget h i=some (.row es xs)) (hl:xs.length=n) (hb:(n + ys.length) * by_ ≤ 1099511627776) :
  apRow h es by_ es i n 0 n ys (some (.row es xs))=some (.sref es i (n + ys.length) 0 (n + ys.length),hset h i (.row es (xs ++ ys))):=by
 rw [apRow_r,Ck_pos ⟨rfl,hl,by omega,by rw [Nat.zero_add];exact hb⟩]
 by_cases h0:ys.length=0
 ·have:ys=[]:=List.length_eq_zero_iff.1 h0
  subst this
  simp only [List.length_nil,decide_true,If_t,Nat.add_zero,List.append_nil]
  rw [hset_self hh]
 ·simp only [h0,decide_false,If_f,Nat.zero_add]
  rw [show decide (n + ys.length ≤ n)=false from decide_eq_false (by omega),If_f,Ck_pos rfl,List.take_of_length_le (by omega)]
theorem ap_l {id es by_:Nat} {xs:List FV} {y:FV}:append h id es by_ (.lst true xs) y=@B (List FV) (FV × Heap) (elems h y) ⟨fun ys=>@Ck (FV × Heap) (ys.all FV.ok=true∧(ys.all fun v=>v.cells.length == es)=true) ⟨fun _ =>
  @Ck (FV × Heap) ((xs.length + ys.length) * by_ ≤ most∧ys.length ≠ 0∧(xs.all fun v=>v.cells.length == es)=true) ⟨fun _=>some (.sref es id (xs.length + ys.length) 0 (xs.length + ys.length),(id,.row es (xs ++ ys))::h)⟩⟩⟩:=by
 unfold append
 show bnd _ _=bnd _ _
 congr 1
 funext ys
 rw [Ck_chk]
 congr 1
 congr 1
 funext _
 exact Ck_chk
theorem fa_p {o i s j q:Nat}:faV o (.ptr i s j q)=some (.ptr i s j (q + o)):=rfl
theorem fa_e {o q:Nat} {cs:List FV}:faV o (.eptr cs q)=some (.eptr cs (q + o)):=rfl
theorem ca_0 {c:FV} {cs:List FV}:cellsAt (c::cs) none 0=some c:=rfl
theorem ca_s {c:FV} {cs:List FV} {n:Nat}:cellsAt (c::cs) none (n + 1)=cellsAt cs none n:=by simp [cellsAt]
theorem ca_g {cs:List FV} {n o:Nat}:cellsAt cs (some n) o=@Ck FV (o + n ≤ cs.length) ⟨fun _=>some (.agg (cut cs o (o + n)))⟩:=Ck_chk
end
section
variable {T:Tab} {k:List I} {m:Tm} {h:Heap} {nx:Nat}
abbrev Out:=Ex × Tm × Heap × Nat
def boolV:FV→Option Bool
 |.bool b=>some b
 |_=>none
theorem boolV_b {b:Bool}:boolV (.bool b)=some b:=rfl
theorem w_cd {x:X} {a b:C}:runs T (.code (.cd x a b)::k) m h nx=@B Bool Out (boolV (ev m x)) ⟨fun t=>@If (Option Out) t ⟨runs T (.code a::k) m h nx,runs T (.code b::k) m h nx⟩⟩:=by
 rw [runs_cd]
 cases ev m x<;>rfl
theorem w_rg {d:Option (List Nat)} {gs:List G} {keep:List Nat}:runs T (.code (.rg d gs keep)::k) m h nx=@B (Tm × Heap × Nat) Out (rops (np (lim T)) nx gs m h (nx + gs.length)) ⟨fun x=>runs T k (keepOf x.1 keep) x.2.1 x.2.2⟩:=runs_rg
theorem w_xt {id:Nat} {k':List I} (hk:exitTo id k=some k'):runs T (.code (.xt id)::k) m h nx=runs T k' m h nx:=by rw [runs_xt,hk]
theorem xt_b {id:Nat}:exitTo id (.inB id::k)=some k:=if_pos rfl
theorem xt_c {id:Nat} {c:C}:exitTo id (.code c::k)=exitTo id k:=rfl
theorem xt_l {id:Nat} {t:Option Nat} {c:C}:exitTo id (.inL t c::k)=exitTo id k:=rfl
theorem w_x0 {id:Nat}:runs T (.code (.xt id)::.inB id::k) m h nx=runs T k m h nx:=w_xt xt_b
theorem w_xc {id:Nat} {c:C}:runs T (.code (.xt id)::.code c::k) m h nx=runs T (.code (.xt id)::k) m h nx:=by rw [runs_xt,runs_xt,xt_c]
theorem w_xl {id:Nat} {t:Option Nat} {c:C}:runs T (.code (.xt id)::.inL t c::k) m h nx=runs T (.code (.xt id)::k) m h nx:=by rw [runs_xt,runs_xt,xt_l]
theorem w_inL {b:Nat} {c:C}:runs T (.inL (some b) c::k) m h nx=@Ck Out (b ≤ nx∧lowTm b m=true∧lowHeap b (cutH b h)=true) ⟨fun _=>runs T (.code c::.inL (some b) c::k) m (cutH b h) b⟩:=by
 rw [runs_inL,Ck_chk]
theorem w_lp1 {c:C}:runs T (.code (.lp true c)::k) m h nx=runs T (.code c::.inL (some nx) c::k) m h nx:=runs_lp
theorem w_lp0 {c:C}:runs T (.code (.lp false c)::k) m h nx=runs T (.code c::.inL none c::k) m h nx:=runs_lp
theorem Ok_inL {b:Nat} {c:C} {q:Post Out} (h1:b ≤ nx) (h2:lowTm b m=true) (h3:lowHeap b (cutH b h)=true) (h4:@Ok Out (runs T (.code c::.inL (some b) c::k) m (cutH b h) b) q):@Ok Out (runs T (.inL (some b) c::k) m h nx) q:=by
 rw [w_inL]
 exact Ok_ck ⟨h1,h2,h3⟩ h4
theorem Ok_inL0 {c:C} {q:Post Out} (h4:@Ok Out (runs T (.code c::.inL none c::k) m h nx) q):@Ok Out (runs T (.inL none c::k) m h nx) q:=by
 rw [runs_inL0]
 exact h4
theorem unf {c c':C} (hc:c=c'):runs T (.code c::k) m h nx=runs T (.code c'::k) m h nx:=by rw [hc]
def resV (rs:List RV) (x:Out):Option FV :=
 match x.1 with
 |.xt _=>none
 |.pan v=>frz x.2.2.1 deep (.pan v)
 |_=>@B (List FV) FV (readRes x.2.1 x.2.2.1 rs) ⟨fun vs=>frz x.2.2.1 deep (result vs)⟩
theorem resV_ret {rs:List RV}:resV rs (.ret,m,h,nx)=@B (List FV) FV (readRes m h rs) ⟨fun vs=>frz h deep (result vs)⟩:=rfl
theorem resV_fin {rs:List RV}:resV rs (.fin,m,h,nx)=@B (List FV) FV (readRes m h rs) ⟨fun vs=>frz h deep (result vs)⟩:=rfl
theorem rr_nil:readRes m h []=some []:=rfl
theorem rr_t {n:Nat} {r:List RV}:readRes m h (.t n::r)=@B (List FV) (List FV) (readRes m h r) ⟨fun vs=>some (gt m n::vs)⟩:=rfl
theorem rr_c {n:Nat} {ag:Option Nat} {r:List RV}:readRes m h (.cell n ag::r)=@B FV (List FV) (loadv h ag (gt m n)) ⟨fun v=>@B (List FV) (List FV) (readRes m h r) ⟨fun vs=>some (v::vs)⟩⟩:=rfl
theorem frz_int {h:Heap} {n:Nat} {k:IntKind} {a:Int}:frz h n (.int k a)=some (.int k a):=frz_pure rfl
theorem frz_bool {h:Heap} {n:Nat} {b:Bool}:frz h n (.bool b)=some (.bool b):=frz_pure rfl
theorem frz_str {h:Heap} {n:Nat} {b:List UInt8}:frz h n (.str b)=some (.str b):=frz_pure rfl
theorem fz_agg {n:Nat} {cs:List FV} (hl:cs.length ≤ n):frz h (n + 1) (.agg cs)=@B (List FV) FV (frzs h n cs) ⟨fun r=>some (.agg r)⟩:=by
 cases hp:pure_ (.agg cs) with
 |false=>exact frz_agg hp
 |true=>rw [frz_pure hp,frzs_pure (by simpa [pure_] using hp) hl];rfl
theorem fz_tup {n:Nat} {cs:List FV} (hl:cs.length ≤ n):frz h (n + 1) (.tup cs)=@B (List FV) FV (frzs h n cs) ⟨fun r=>some (.tup r)⟩:=by
 cases hp:pure_ (.tup cs) with
 |false=>exact frz_tup hp
 |true=>rw [frz_pure hp,frzs_pure (by simpa [pure_] using hp) hl];rfl
theorem fz_ref {n es id st off len:Nat} (he:es ≠ 0):frz h (n + 1) (.sref es id st off len)=@B (List FV) FV (elems h (.sref es id st off len)) ⟨fun xs=>@B (List FV) FV (frzs h n xs) ⟨fun r=>some (.lst false r)⟩⟩:=frz_sref he
theorem fzs_n {n:Nat}:frzs h n []=some []:=by cases n<;>rfl
theorem fzs_c {n:Nat} {v:FV} {r:List FV}:frzs h (n + 1) (v::r)=@B FV (List FV) (frz h n v) ⟨fun v'=>@B (List FV) (List FV) (frzs h n r) ⟨fun r'=>some (v'::r')⟩⟩:=rfl
theorem frz_lst {n:Nat} {e:Bool} {xs:List FV} (hp:pures xs=true):frz h n (.lst e xs)=some (.lst e xs):=frz_pure hp
theorem frz_e {n:Nat} {e:Bool}:frz h n (.lst e [])=some (.lst e []):=frz_pure rfl
theorem lim_iso {f:Nat} {d:Fn} {args:List FV} {r:FV} (ht:tget T f=some (.fn d)) (hm:d.mode=.iso) (hn:args.length=d.np) (hp:pures args=true)
  (hr:@Ok Out (runs T [.code d.body] (params 0 args) [] 0) ⟨fun x=>resV d.res x=some r⟩) (hlt:f < RB:=by decide):∀ h nx,lim T f args h nx=some (r,h,nx):=by
 intro h nx
 obtain ⟨x,h1,h2⟩:=hr
 rw [lim_fn ht hlt,enter_isoE hm hn hp,h1]
 show (bnd (finish d x) fun v=>bnd (frz x.2.2.1 deep v) fun r=>some (r,h,nx))=_
 obtain ⟨e,m',h',nx'⟩:=x
 have key:∀ {vs:Option (List FV)},(@B (List FV) FV vs ⟨fun vs=>frz h' deep (result vs)⟩)=some r→(bnd (bnd vs fun vs=>some (result vs)) fun v=>bnd (frz h' deep v) fun r=>some (r,h,nx))=some (r,h,nx):=by
  intro vs hv
  cases vs with
  |none=>cases hv
  |some vs =>
   have hv:frz h' deep (result vs)=some r:=hv
   show (bnd (frz h' deep (result vs)) fun r=>some (r,h,nx))=_
   rw [hv]
   rfl
 cases e with
 |xt i=>cases h2
 |fin=>exact key h2
 |ret=>exact key h2
 |pan u =>
  have h2:frz h' deep (.pan u)=some r:=h2
  show (bnd (frz h' deep (.pan u)) fun r=>some (r,h,nx))=_
  rw [h2]
  rfl
end
theorem lim_isoP {T:Tab} {f:Nat} {d:Fn} {args:List FV} {p:FV→Prop} (ht:tget T f=some (.fn d)) (hm:d.mode=.iso) (hn:args.length=d.np) (hp:pures args=true)
  (hr:@Ok Out (runs T [.code d.body] (params 0 args) [] 0) ⟨fun x=>@Ok FV (resV d.res x) ⟨p⟩⟩) (hlt:f < RB:=by decide):∃ r,p r∧∀ h nx,lim T f args h nx=some (r,h,nx):=by
 obtain ⟨x,h1,r,h2,h3⟩:=hr
 exact ⟨r,h3,lim_iso ht hm hn hp ⟨x,h1,h2⟩ hlt⟩
mutual
theorem eqv_refl:∀ v:FV,eqv v v=true
 |.undef | .nilp | .nilm | .nilf | .nili=>rfl
 |.bool a=>by simp [eqv]
 |.int k a=>by simp [eqv]
 |.str a=>by simp [eqv]
 |.agg a=>by simp [eqv,eqvs_refl a]
 |.tup a=>by simp [eqv,eqvs_refl a]
 |.lst e a=>by simp [eqv,eqvs_refl a]
 |.eptr a i=>by simp [eqv,eqvs_refl a]
 |.ptr a b c d=>by simp [eqv]
 |.sref a b c d e=>by simp [eqv]
 |.map a=>by simp [eqv]
 |.fn f a=>by simp [eqv,eqvs_refl a]
 |.ifc t a=>by simp [eqv,eqv_refl a]
 |.pan a=>by simp [eqv,eqv_refl a]
 |.yl f i a=>by simp [eqv,eqvs_refl a]
theorem eqvs_refl:∀ vs:List FV,eqvs vs vs=true
 |[]=>rfl
 |v::vs=>by simp [eqvs,eqv_refl v,eqvs_refl vs]
end
theorem hg_eq {i:Nat} {o:Obj} {r:Heap}:hget ((i,o)::r) i=some o:=if_pos rfl
theorem hg_ne {i t:Nat} {o:Obj} {r:Heap} (h:i ≠ t):hget ((i,o)::r) t=hget r t:=if_neg h
theorem hs_eq {i:Nat} {v o:Obj} {r:Heap}:hset ((i,v)::r) i o=(i,o)::r:=if_pos rfl
theorem hs_ne {i t:Nat} {v o:Obj} {r:Heap} (h:i ≠ t):hset ((i,v)::r) t o=(i,v)::hset r t o:=if_neg h
theorem hgs_ne {i j:Nat} {o:Obj} (hij:i ≠ j):∀ {h:Heap},hget (hset h i o) j=hget h j:=by
 intro h
 induction h with
 |nil=>rfl
 |cons p h ih =>
  obtain ⟨k,v⟩:=p
  simp only [hset]
  split
  ·rename_i e
   simp only [hget,if_neg hij,if_neg (show ¬ k=j by omega)]
  ·simp only [hget,ih]
theorem hgs_eq {i:Nat} {o q:Obj}:∀ {h:Heap},hget h i=some q→hget (hset h i o) i=some o:=by
 intro h
 induction h with
 |nil=>intro hh;cases hh
 |cons p h ih =>
  obtain ⟨k,v⟩:=p
  intro hh
  simp only [hget] at hh
  simp only [hset]
  split
  ·rename_i e
   simp only [hget,if_pos e]
  ·rename_i e
   rw [if_neg e] at hh
   simp only [hget,if_neg e,ih hh]
theorem hss_eq {i:Nat} {o p:Obj}:∀ {h:Heap},hset (hset h i o) i p=hset h i p:=by
 intro h
 induction h with
 |nil=>rfl
 |cons q h ih =>
  obtain ⟨k,v⟩:=q
  simp only [hset]
  split
  ·rename_i e;simp only [hset,if_pos e]
  ·rename_i e;simp only [hset,if_neg e,ih]
def finV (rs:List RV) (x:Out):Option FV :=
 match x.1 with
 |.xt _=>none
 |.pan v=>some (.pan v)
 |_=>@B (List FV) FV (readRes x.2.1 x.2.2.1 rs) ⟨fun vs=>some (result vs)⟩
section
variable {m:Tm} {h:Heap} {nx:Nat}
theorem finV_ret {rs:List RV}:finV rs (.ret,m,h,nx)=@B (List FV) FV (readRes m h rs) ⟨fun vs=>some (result vs)⟩:=rfl
theorem finV_fin {rs:List RV}:finV rs (.fin,m,h,nx)=@B (List FV) FV (readRes m h rs) ⟨fun vs=>some (result vs)⟩:=rfl
end
theorem fin_V (d:Fn) (x:Out):finish d x=finV d.res x:=by
 obtain ⟨e,m,h,nx⟩:=x
 cases e<;>rfl
theorem lim_shr {T:Tab} {f:Nat} {d:Fn} {args:List FV} {h:Heap} {nx:Nat} (ht:tget T f=some (.fn d)) (hm:d.mode=.shr) (hn:args.length=d.np) (hlt:f < RB:=by decide) :
  lim T f args h nx=@B Out (FV × Heap × Nat) (runs T [.code d.body] (params 0 args) h nx) ⟨fun x=>@B FV (FV × Heap × Nat) (finV d.res x) ⟨fun v=>some (v,x.2.2.1,x.2.2.2)⟩⟩:=by
 rw [lim_fn ht hlt]
 unfold enterWith
 rw [chk,if_pos hn,hm]
 show bnd _ _=bnd _ _
 congr 1
 funext x
 rw [fin_V]
 rfl
def isfR (T:Tab) (d:Fn) (as:List FV) (h:Heap) (nx:Nat):Option (FV × Heap × Nat) :=
 @B Out (FV × Heap × Nat) (runs T [.code d.body] (params 0 as) [] 0) ⟨fun x=>@B FV (FV × Heap × Nat) (finV d.res x) ⟨fun v=>@Ck (FV × Heap × Nat) (flat v=true) ⟨fun _=>some (v,h,nx)⟩⟩⟩
theorem lim_isf {T:Tab} {f:Nat} {d:Fn} {args:List FV} {h:Heap} {nx:Nat} (ht:tget T f=some (.fn d)) (hm:d.mode=.isf) (hn:args.length=d.np) (hlt:f < RB:=by decide) :
  lim T f args h nx=@B (List FV) (FV × Heap × Nat) (frzs h deep args) ⟨fun as=>isfR T d as h nx⟩:=by
 rw [lim_fn ht hlt]
 unfold enterWith
 rw [chk,if_pos hn,hm]
 show bnd _ _=bnd _ _
 congr 1
 funext as
 show bnd _ _=bnd _ _
 congr 1
 funext x
 rw [fin_V]
 show bnd _ _=bnd _ _
 congr 1
 funext v
 exact Ck_chk
theorem isfR_of {T:Tab} {d:Fn} {as:List FV} {v:FV} {h:Heap} {nx:Nat} (hv:flat v=true) (hr:@Ok Out (runs T [.code d.body] (params 0 as) [] 0) ⟨fun x=>finV d.res x=some v⟩):isfR T d as h nx=some (v,h,nx):=by
 obtain ⟨x,h1,h2⟩:=hr
 unfold isfR
 rw [h1,B_some,h2,B_some,Ck_pos hv]
theorem pures_map {α:Type} {f:α→FV} (hf:∀ a,pure_ (f a)=true):∀ l:List α,pures (l.map f)=true:=by
 intro l
 induction l with
 |nil=>rfl
 |cons a l ih=>simp [pures,hf,ih]
theorem lows_map {α:Type} {b:Nat} {f:α→FV} (hf:∀ a,low b (f a)=true):∀ l:List α,lows b (l.map f)=true:=by
 intro l
 induction l with
 |nil=>rfl
 |cons a l ih=>simp [lows,hf,ih]
theorem all_map {α β:Type} {f:α→β} {p:β→Bool} (hf:∀ a,p (f a)=true):∀ l:List α,(l.map f).all p=true:=by
 intro l
 induction l with
 |nil=>rfl
 |cons a l ih=>simp only [List.map_cons,List.all_cons,hf,ih,Bool.and_self]
theorem getD_map {α β:Type} {f:α→β} {l:List α} {i:Nat} {d:β} (z:α) (h:i < l.length):(l.map f).getD i d=f (l.getD i z):=by
 simp [List.getD,h]
theorem pr_eta {α β:Type} (p:α × β):(p.1,p.2)=p:=rfl
theorem take_full {α:Type} {l:List α} {n:Nat} (h:l.length ≤ n):l.take n=l:=List.take_of_length_le h
theorem wrapu64 {n:Int} (h1:0 ≤ n) (h2:n ≤ 18446744073709551615):IntKind.u64.wrap n=n:=by
 simp [IntKind.wrap,IntKind.bits,IntKind.signed]
 omega
theorem wrapu8 {n:Int} (h1:0 ≤ n) (h2:n ≤ 255):IntKind.u8.wrap n=n:=by
 simp [IntKind.wrap,IntKind.bits,IntKind.signed]
 omega
theorem wrapi8 {n:Int} (h1:-128 ≤ n) (h2:n ≤ 127):IntKind.i8.wrap n=n:=by
 simp [IntKind.wrap,IntKind.bits,IntKind.signed]
 omega
theorem gt_c {i t:Nat} {v:FV} {r:Tm}:gt ((i,v)::r) t=if i=t then v else gt r t:=rfl
theorem gt_n {t:Nat}:gt [] t=.undef:=rfl
theorem ev_t {m:Tm} {n:Nat}:ev m (.t n)=gt m n:=rfl
theorem ev_c {m:Tm} {v:FV}:ev m (.c v)=v:=rfl
theorem put_s {m:Tm} {d:Nat} {v:FV}:put m (some d) v=(d,v)::m:=rfl
theorem put_n {m:Tm} {v:FV}:put m none v=m:=rfl
theorem keep_n {m:Tm}:keepOf m []=[]:=rfl
theorem keep_c {m:Tm} {t:Nat} {ts:List Nat}:keepOf m (t::ts)=(t,gt m t)::keepOf m ts:=rfl
theorem hget_c {i t:Nat} {o:Obj} {r:Heap}:hget ((i,o)::r) t=if i=t then some o else hget r t:=rfl
theorem evs_n {m:Tm}:evs m []=[]:=rfl
theorem evs_c {m:Tm} {x:X} {xs:List X}:evs m (x::xs)=ev m x::evs m xs:=rfl
theorem evps_n {m:Tm}:evps m []=[]:=rfl
theorem evps_c {m:Tm} {a b:Nat} {x:X} {r:List (Nat × Nat × X)}:evps m ((a,b,x)::r)=(a,b,ev m x)::evps m r:=rfl
theorem evpe_n {m:Tm}:evpe m []=[]:=rfl
theorem evpe_c {m:Tm} {a:Nat} {x:X} {r:List (Nat × X)}:evpe m ((a,x)::r)=(a,ev m x)::evpe m r:=rfl
theorem optV_n {m:Tm}:optV m none=none:=rfl
theorem optV_s {m:Tm} {x:X}:optV m (some x)=some (ev m x):=rfl
theorem par_n {i:Nat}:params i []=[]:=rfl
theorem par_c {i:Nat} {v:FV} {r:List FV}:params i (v::r)=(i,v)::params (i + 1) r:=rfl
theorem res_1 {v:FV}:result [v]=v:=rfl
theorem res_2 {v w:FV} {r:List FV}:result (v::w::r)=.tup (v::w::r):=rfl
theorem if_tt {α:Type} {x y:α}:(if true=true then x else y)=x:=rfl
theorem if_ft {α:Type} {x y:α}:(if false=true then x else y)=y:=rfl
theorem cut_d {α:Type} {s:List α} {i j:Nat}:cut s i j=(s.drop i).take (j - i):=rfl
theorem spl_d {cs vs:List FV} {o:Nat}:splice cs o vs=cs.take o ++ vs ++ cs.drop (o + vs.length):=rfl
theorem cells_a {cs:List FV}:(FV.agg cs).cells=cs:=rfl
theorem cells_i {k:IntKind} {n:Int}:(FV.int k n).cells=[.int k n]:=rfl
theorem cells_b {b:Bool}:(FV.bool b).cells=[.bool b]:=rfl
theorem cells_s {b:List UInt8}:(FV.str b).cells=[.str b]:=rfl
theorem cells_l {b:Bool} {xs:List FV}:(FV.lst b xs).cells=[.lst b xs]:=rfl
theorem cells_r {a b c d e:Nat}:(FV.sref a b c d e).cells=[.sref a b c d e]:=rfl
theorem ok_i {k:IntKind} {n:Int}:(FV.int k n).ok=true:=rfl
theorem ok_b {b:Bool}:(FV.bool b).ok=true:=rfl
theorem ok_s {b:List UInt8}:(FV.str b).ok=true:=rfl
theorem ok_l {b:Bool} {xs:List FV}:(FV.lst b xs).ok=true:=rfl
theorem ok_r {a b c d e:Nat}:(FV.sref a b c d e).ok=true:=rfl
theorem ok_a {cs:List FV}:(FV.agg cs).ok=cs.all FV.one:=rfl
theorem one_i {k:IntKind} {n:Int}:(FV.int k n).one=true:=rfl
theorem one_b {b:Bool}:(FV.bool b).one=true:=rfl
theorem one_s {b:List UInt8}:(FV.str b).one=true:=rfl
theorem one_l {b:Bool} {xs:List FV}:(FV.lst b xs).one=true:=rfl
theorem one_r {a b c d e:Nat}:(FV.sref a b c d e).one=true:=rfl
theorem EV1:type_of% (And.intro @B_some <| And.intro @B_none <| And.intro @B_If <| And.intro @B_Ck <| And.intro @Ck_true <| And.intro @If_t <| And.intro @If_f <| And.intro @If_not <| And.intro @Ok_some <|
 And.intro @r_nil <| And.intro @r_mv <| And.intro @r_pk <| And.intro @r_bo <| And.intro @r_be <| And.intro @r_eq <| And.intro @r_un <| And.intro @r_ix <| And.intro @r_ln0 <| And.intro @r_ln1 <| And.intro @r_ln2 <| And.intro @r_mx <| And.intro @r_mn <| And.intro @r_cv <| And.intro @r_ld <| And.intro @r_fa <| And.intro @r_fd <| And.intro @r_ia <| And.intro @r_aa <| And.intro @r_nc <| And.intro @r_ex <| And.intro @r_sl <| And.intro @r_bd <| And.intro @r_mf <| And.intro @r_mi <| And.intro @r_sx <| And.intro @sx_s <| And.intro @r_bx <| And.intro @r_al <| And.intro @r_bs <| And.intro @r_ms <| And.intro @r_nl <| And.intro @r_mm <| And.intro @r_st <| And.intro @r_ap <| And.intro @r_lk <| And.intro @r_mu <| And.intro @r_cl <| And.intro @r_cw <|
 And.intro @r_gd <| And.intro @wantB_1 <| And.intro @wantB_0 <| And.intro @wantB_t <| And.intro @k_nil <| And.intro @k_cons <| @k_gd):=And.intro @B_some <| And.intro @B_none <| And.intro @B_If <| And.intro @B_Ck <| And.intro @Ck_true <| And.intro @If_t <| And.intro @If_f <| And.intro @If_not <| And.intro @Ok_some <|
 And.intro @r_nil <| And.intro @r_mv <| And.intro @r_pk <| And.intro @r_bo <| And.intro @r_be <| And.intro @r_eq <| And.intro @r_un <| And.intro @r_ix <| And.intro @r_ln0 <| And.intro @r_ln1 <| And.intro @r_ln2 <| And.intro @r_mx <| And.intro @r_mn <| And.intro @r_cv <| And.intro @r_ld <| And.intro @r_fa <| And.intro @r_fd <| And.intro @r_ia <| And.intro @r_aa <| And.intro @r_nc <| And.intro @r_ex <| And.intro @r_sl <| And.intro @r_bd <| And.intro @r_mf <| And.intro @r_mi <| And.intro @r_sx <| And.intro @sx_s <| And.intro @r_bx <| And.intro @r_al <| And.intro @r_bs <| And.intro @r_ms <| And.intro @r_nl <| And.intro @r_mm <| And.intro @r_st <| And.intro @r_ap <| And.intro @r_lk <| And.intro @r_mu <| And.intro @r_cl <| And.intro @r_cw <|
 And.intro @r_gd <| And.intro @wantB_1 <| And.intro @wantB_0 <| And.intro @wantB_t <| And.intro @k_nil <| And.intro @k_cons <| @k_gd
theorem EV2:type_of% (And.intro @b_add <| And.intro @b_sub <| And.intro @b_mul <| And.intro @b_quo <| And.intro @b_rem <| And.intro @b_and <| And.intro @b_or <| And.intro @b_xor <| And.intro @b_andNot <| And.intro @b_shl <| And.intro @b_shr <| And.intro @b_eql <| And.intro @b_neq <| And.intro @b_lss <| And.intro @b_leq <| And.intro @b_gtr <| And.intro @b_geq <| And.intro @b_sadd <| And.intro @b_seql <| And.intro @b_sneq <| And.intro @b_slss <| And.intro @b_sleq <| And.intro @b_sgtr <| And.intro @b_sgeq <| And.intro @u_neg <| And.intro @u_not <| And.intro @u_xor <|
 And.intro @ld_e <| And.intro @ld_p <| And.intro @ldRow_r <| And.intro @ldRow_f <| And.intro @st_p <| And.intro @stRow_r <| And.intro @resh_a <| And.intro @resh_i <| And.intro @resh_b <| And.intro @resh_s <| And.intro @resh_l <| And.intro @resh_r <| And.intro @elRow_r <| And.intro @elRow_f <| And.intro @el_r <| And.intro @el_l <| And.intro @el_s <| And.intro @apRow_full <| And.intro @mx_i <| And.intro @beV_b <| And.intro @cw_f <| And.intro @cw_b <|  And.intro @mn_i <| And.intro @idx_n <| And.intro @idx_s <| And.intro @sl_str <| And.intro @sl_lst <| And.intro @sl_ref <| And.intro @eqc_n <| And.intro @eqc_c <| And.intro @eqc_0 <| And.intro @eqc_1 <| And.intro @eqc_2 <| And.intro @ap_r <| And.intro @ap_l <| And.intro @fa_p <| And.intro @fa_e <| And.intro @ixV_s <| And.intro @lenV_s <| And.intro @lenV_l <| And.intro @lenV_r <| And.intro @fdV_agg <| And.intro @iaV_l <| And.intro @iaV_r <| And.intro @exV_t <| And.intro @fillV_nil <| And.intro @fillV_cons <| And.intro @fillE_nil <| And.intro @fillE_cons <| And.intro @msV_i <| @ca_g):=And.intro @b_add <| And.intro @b_sub <| And.intro @b_mul <| And.intro @b_quo <| And.intro @b_rem <| And.intro @b_and <| And.intro @b_or <| And.intro @b_xor <| And.intro @b_andNot <| And.intro @b_shl <| And.intro @b_shr <| And.intro @b_eql <| And.intro @b_neq <| And.intro @b_lss <| And.intro @b_leq <| And.intro @b_gtr <| And.intro @b_geq <| And.intro @b_sadd <| And.intro @b_seql <| And.intro @b_sneq <| And.intro @b_slss <| And.intro @b_sleq <| And.intro @b_sgtr <| And.intro @b_sgeq <| And.intro @u_neg <| And.intro @u_not <| And.intro @u_xor <|
 And.intro @ld_e <| And.intro @ld_p <| And.intro @ldRow_r <| And.intro @ldRow_f <| And.intro @st_p <| And.intro @stRow_r <| And.intro @resh_a <| And.intro @resh_i <| And.intro @resh_b <| And.intro @resh_s <| And.intro @resh_l <| And.intro @resh_r <| And.intro @elRow_r <| And.intro @elRow_f <| And.intro @el_r <| And.intro @el_l <| And.intro @el_s <| And.intro @apRow_full <| And.intro @mx_i <| And.intro @beV_b <| And.intro @cw_f <| And.intro @cw_b <|  And.intro @mn_i <| And.intro @idx_n <| And.intro @idx_s <| And.intro @sl_str <| And.intro @sl_lst <| And.intro @sl_ref <| And.intro @eqc_n <| And.intro @eqc_c <| And.intro @eqc_0 <| And.intro @eqc_1 <| And.intro @eqc_2 <| And.intro @ap_r <| And.intro @ap_l <| And.intro @fa_p <| And.intro @fa_e <| And.intro @ixV_s <| And.intro @lenV_s <| And.intro @lenV_l <| And.intro @lenV_r <| And.intro @fdV_agg <| And.intro @iaV_l <| And.intro @iaV_r <| And.intro @exV_t <| And.intro @fillV_nil <| And.intro @fillV_cons <| And.intro @fillE_nil <| And.intro @fillE_cons <| And.intro @msV_i <| @ca_g
theorem EV3:type_of% (And.intro @runs_nil <| And.intro @runs_rt <| And.intro @runs_sk <| And.intro @runs_inB <| And.intro @runs_sq <| And.intro @runs_bl <| And.intro @w_cd <| And.intro @w_rg <| And.intro @boolV_b <| And.intro @w_x0 <| And.intro @w_xc <| @w_xl):=And.intro @runs_nil <| And.intro @runs_rt <| And.intro @runs_sk <| And.intro @runs_inB <| And.intro @runs_sq <| And.intro @runs_bl <| And.intro @w_cd <| And.intro @w_rg <| And.intro @boolV_b <| And.intro @w_x0 <| And.intro @w_xc <| @w_xl
theorem EV4:type_of% (And.intro @gt_c <| And.intro @gt_n <| And.intro @ev_t <| And.intro @ev_c <| And.intro @put_s <| And.intro @put_n <| And.intro @keep_n <| And.intro @keep_c <| And.intro @hg_eq <| And.intro @hg_ne <| And.intro @hs_eq <| And.intro @hss_eq <| And.intro @hs_ne <| And.intro @evs_n <| And.intro @evs_c <| And.intro @evps_n <| And.intro @evps_c <| And.intro @evpe_n <| And.intro @evpe_c <| And.intro @optV_n <| And.intro @optV_s <| And.intro @par_n <| And.intro @par_c <| And.intro @res_1 <| And.intro @res_2 <| And.intro @if_tt <| And.intro @if_ft <|
 And.intro @cut_d <| And.intro @spl_d <| And.intro @cells_a <| And.intro @cells_i <| And.intro @cells_b <| And.intro @cells_s <| And.intro @cells_l <| And.intro @cells_r <| And.intro @ok_i <| And.intro @ok_b <| And.intro @ok_s <| And.intro @ok_l <| And.intro @ok_r <| And.intro @ok_a <| And.intro @one_i <| And.intro @one_b <| And.intro @one_s <| And.intro @one_l <| And.intro @one_r <|
 And.intro @resV_ret <| And.intro @resV_fin <| And.intro @rr_nil <| And.intro @rr_t <| And.intro @rr_c <| And.intro @frz_int <| And.intro @frz_bool <| And.intro @frz_str <| And.intro @fz_agg <| And.intro @fz_tup <| And.intro @fz_ref <| And.intro @fzs_n <| And.intro @fzs_c <| And.intro @frzs_pure <| And.intro @frz_lst <| And.intro @frz_e <| And.intro @finV_ret <| And.intro @finV_fin <|  @eqv_refl):=And.intro @gt_c <| And.intro @gt_n <| And.intro @ev_t <| And.intro @ev_c <| And.intro @put_s <| And.intro @put_n <| And.intro @keep_n <| And.intro @keep_c <| And.intro @hg_eq <| And.intro @hg_ne <| And.intro @hs_eq <| And.intro @hss_eq <| And.intro @hs_ne <| And.intro @evs_n <| And.intro @evs_c <| And.intro @evps_n <| And.intro @evps_c <| And.intro @evpe_n <| And.intro @evpe_c <| And.intro @optV_n <| And.intro @optV_s <| And.intro @par_n <| And.intro @par_c <| And.intro @res_1 <| And.intro @res_2 <| And.intro @if_tt <| And.intro @if_ft <|
 And.intro @cut_d <| And.intro @spl_d <| And.intro @cells_a <| And.intro @cells_i <| And.intro @cells_b <| And.intro @cells_s <| And.intro @cells_l <| And.intro @cells_r <| And.intro @ok_i <| And.intro @ok_b <| And.intro @ok_s <| And.intro @ok_l <| And.intro @ok_r <| And.intro @ok_a <| And.intro @one_i <| And.intro @one_b <| And.intro @one_s <| And.intro @one_l <| And.intro @one_r <|
 And.intro @resV_ret <| And.intro @resV_fin <| And.intro @rr_nil <| And.intro @rr_t <| And.intro @rr_c <| And.intro @frz_int <| And.intro @frz_bool <| And.intro @frz_str <| And.intro @fz_agg <| And.intro @fz_tup <| And.intro @fz_ref <| And.intro @fzs_n <| And.intro @fzs_c <| And.intro @frzs_pure <| And.intro @frz_lst <| And.intro @frz_e <| And.intro @finV_ret <| And.intro @finV_fin <|  @eqv_refl
end
end Go.FI
