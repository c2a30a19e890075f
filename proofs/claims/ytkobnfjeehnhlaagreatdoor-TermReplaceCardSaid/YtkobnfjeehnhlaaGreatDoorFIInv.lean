/- What new objects and writes do to the state of memory. -/
import Derived.Test.YtkobnfjeehnhlaaGreatDoorFIOpz
set_option linter.all false
namespace Go.FI
open Go.RowKit
variable [Sys]
section
variable {g g':Gh} {w w':World} {P:Program} {B:Nat} {w0:World} {h h':Heap}
theorem RowOk.mono (hg:GLe g g' w w') {l:Loc} {es:Nat} {xs:List FV} (hb:∀ b,l.blk=some b→w'.heap[b]? = w.heap[b]?) (ho:RowOk g w l es xs):RowOk g' w' l es xs :=
 ⟨ho.hmp,ho.hsize,ho.hes,ho.pos,ho.elems,ho.hnone,fun b hlb=>by
  obtain ⟨arr,t,h1,h2,h3,cs,h4,h5⟩:=ho.hsome b hlb
  exact ⟨arr,t,by rw [hb b hlb];exact h1,h2,h3,cs,h4.mono hg,h5⟩⟩
theorem EnOk.mono (hg:GLe g g' w w') {en:List (FV × FV)} {es:List MapEntry} (he:EnOk g w en es):EnOk g' w' en es:=by
 induction he with
 |nil=>exact .nil
 |cons k v e en es hk hv hs ih=>exact .cons k v e en es (hk.mono hg) (hv.mono hg) ih
theorem MapOk.mono (hg:GLe g g' w w') {l:Loc} {en:List (FV × FV)} (hb:∀ b,l.blk=some b→w'.heap[b]? = w.heap[b]?) (ho:MapOk g w l en):MapOk g' w' l en :=
 ⟨ho.hmp,ho.hlp,by
  obtain ⟨b,es,clock,h1,h2,h3,h4⟩:=ho.hsome
  exact ⟨b,es,clock,h1,by rw [hb b h1];exact h2,h3.mono hg,h4⟩⟩
theorem LpOk.mono {l:Loc} {st jp:Nat} (hb:∀ b,l.blk=some b→w'.heap[b]? = w.heap[b]?) (ho:LpOk w l st jp):LpOk w' l st jp :=
 ⟨ho.hmp,by
  obtain ⟨b,r,h1,h2,h3⟩:=ho.hsome
  exact ⟨b,r,h1,h2,by rw [hb b h1];exact h3⟩⟩
theorem SitOk.mono {l:Loc} {s:List UInt8} {pos:Nat} (hb:∀ b,l.blk=some b→w'.heap[b]? = w.heap[b]?) (ho:SitOk w l s pos):SitOk w' l s pos :=
 ⟨ho.hmp,ho.hlp,ho.hsize,by
  obtain ⟨b,h1,h3⟩:=ho.hsome
  exact ⟨b,h1,by rw [hb b h1];exact h3⟩⟩
theorem MitOk.mono (hg:GLe g g' w w') {l:Loc} (ho:MitOk g w l):MitOk g' w' l :=
 ⟨ho.hmp,ho.hlp,ho.hsize,by
  obtain ⟨b,m,s,sn,k,h1,h2,h3⟩:=ho.hsome
  exact ⟨b,m,s,sn,k,h1,hg.z b h2,by rw [hg.heap b h2];exact h3⟩⟩
theorem ObjOk.mono (hg:GLe g g' w w') {l:Loc} {o:Obj} (hb:∀ b,l.blk=some b→w'.heap[b]? = w.heap[b]?) (ho:ObjOk g w l o):ObjOk g' w' l o:=by
 cases o with
 |row es xs=>exact RowOk.mono hg hb ho
 |fro es xs=>exact ⟨RowOk.mono hg hb ho.1,fun b h=>hg.z b (ho.2 b h)⟩
 |mp en=>exact MapOk.mono hg hb ho
 |lp st jp=>exact LpOk.mono hb ho
 |fmp en=>exact ⟨MapOk.mono hg hb ho.1,fun b h=>hg.z b (ho.2 b h)⟩
 |sit s pos=>exact SitOk.mono hb ho
 |mit=>exact MitOk.mono hg ho
structure Put (g g':Gh) (w w':World) (id:Nat) (l':Loc):Prop where
 k:∀ i,g'.κ i=if i=id then some l' else g.κ i
 z:g'.Z=g.Z
 old:∀ l,g.κ id=some l→l.size ≤ l'.size∧l'.es=l.es∧(l'.size=l.size ∨ l.mp=true→l'=l)
 blk:∀ b,l'.blk=some b→(∃ l,g.κ id=some l∧l.blk=some b) ∨ w.heap.size ≤ b
 heap:∀ b,b < w.heap.size→l'.blk ≠ some b→w'.heap[b]? = w.heap[b]?
 sz:w.heap.size ≤ w'.heap.size
 lt:∀ b,l'.blk=some b→b < w'.heap.size
 os:w'.os=w.os
 tape:w'.tape=w.tape
 output:w'.output=w.output
theorem Put.gle (hI:Inv B w0 g h w) {id:Nat} {l':Loc} (p:Put g g' w w' id l') (hnf:∀ l,g.κ id=some l→isFro (hget h id)=false):GLe g g' w w':=by
 refine ⟨fun b hb=>by rw [p.z];exact hb,fun b hb=>?_,fun i l hl=>?_⟩
 ·refine p.heap b (hI.zlt b hb) fun e=>?_
  rcases p.blk b e with ⟨l,h1,h2⟩ | h1
  ·exact (hI.own id l b h1 h2).2.1 (hnf l h1) hb
  ·have:=hI.zlt b hb;omega
 ·rw [p.k]
  by_cases e:i=id
  ·subst e
   obtain ⟨h1,h2,h3⟩:=p.old l hl
   exact ⟨l',by simp,h1,h2,h3⟩
  ·rw [if_neg e];exact ⟨l,hl,Nat.le_refl _,rfl,fun _=>rfl⟩
theorem Inv.put (hI:Inv B w0 g h w) {id:Nat} {l':Loc} {ob:Obj} (p:Put g g' w w' id l') (hh:∀ i,hget h' i=if i=id then some ob else hget h i) (hob:ObjOk g' w' l' ob) (hnf:∀ l,g.κ id=some l→isFro (hget h id)=false):Inv B w0 g' h' w':=by
 have hg:=p.gle hI hnf
 have hother:∀ i l b,i ≠ id→g.κ i=some l→l.blk=some b→l'.blk ≠ some b:=by
  intro i l b hi hk hb e
  rcases p.blk b e with ⟨l2,h1,h2⟩ | h1
  ·exact hi (hI.inj i id l l2 b hk h1 hb h2)
  ·have:=(hI.own i l b hk hb).2.2;omega
 refine ⟨fun i l hl=>?_,fun i o l ho hl=>?_,fun i j li lj b hi hj hbi hbj=>?_,fun i l b hl hb=>?_,fun b hb=>?_,?_,?_⟩
 ·rw [hh]
  by_cases e:i=id
  ·exact ⟨ob,by simp [e]⟩
  ·rw [if_neg e];rw [p.k,if_neg e] at hl;exact hI.dom i l hl
 ·rw [hh] at ho
  by_cases e:i=id
  ·rw [if_pos e] at ho;cases ho
   rw [p.k,if_pos e] at hl;cases hl
   exact hob
  ·rw [if_neg e] at ho
   rw [p.k,if_neg e] at hl
   exact (hI.obj i o l ho hl).mono hg fun b hb=>p.heap b (hI.own i l b hl hb).2.2 (hother i l b e hl hb)
 ·rw [p.k] at hi hj
  by_cases ei:i=id<;>by_cases ej:j=id
  ·rw [ei,ej]
  ·rw [if_pos ei] at hi;rw [if_neg ej] at hj;cases hi
   exact absurd hbi (hother j lj b ej hj hbj)
  ·rw [if_neg ei] at hi;rw [if_pos ej] at hj;cases hj
   exact absurd hbj (hother i li b ei hi hbi)
  ·rw [if_neg ei] at hi;rw [if_neg ej] at hj
   exact hI.inj i j li lj b hi hj hbi hbj
 ·rw [p.k] at hl
  rw [p.z]
  by_cases e:i=id
  ·rw [if_pos e] at hl;cases hl
   rcases p.blk b hb with ⟨l,h1,h2⟩ | h1
   ·have:=hI.own id l b h1 h2;exact ⟨this.1,fun _=>this.2.1 (hnf l h1),p.lt b hb⟩
   ·exact ⟨Nat.le_trans hI.size h1,fun _ hz=>by have:=hI.zlt b hz;omega,p.lt b hb⟩
  ·rw [if_neg e] at hl
   have:=hI.own i l b hl hb
   exact ⟨this.1,fun hf=>this.2.1 (by rw [hh,if_neg e] at hf;exact hf),Nat.lt_of_lt_of_le this.2.2 p.sz⟩
 ·rw [p.z] at hb
  exact Nat.lt_of_lt_of_le (hI.zlt b hb) p.sz
 ·refine hI.below.trans ⟨p.os,p.tape,p.output,p.sz,fun k hk=>p.heap k (Nat.lt_of_lt_of_le hk hI.size) fun e=>?_⟩
  rcases p.blk k e with ⟨l,h1,h2⟩ | h1
  ·have:=(hI.own id l k h1 h2).1;omega
  ·have:=hI.size;omega
 ·exact Nat.le_trans hI.size p.sz
theorem hget_cons (h:Heap) (id:Nat) (o:Obj) (i:Nat):hget ((id,o)::h) i=if i=id then some o else hget h i:=by
 simp [hget,eq_comm]
theorem hget_hset {id:Nat} {o q:Obj} (hs:hget h id=some q) (i:Nat):hget (hset h id o) i=if i=id then some o else hget h i:=by
 induction h with
 |nil=>simp [hget] at hs
 |cons p r ih =>
  obtain ⟨j,u⟩:=p
  simp only [hset]
  by_cases hj:j=id
  ·subst hj
   rw [if_pos rfl]
   simp only [hget]
   by_cases e:j=i
   ·rw [if_pos e,if_pos e.symm]
   ·rw [if_neg e,if_neg (fun x=>e x.symm),if_neg e]
  ·rw [if_neg hj]
   simp only [hget,if_neg hj] at hs ⊢
   by_cases e:j=i
   ·subst e;rw [if_pos rfl,if_neg hj,if_pos rfl]
   ·rw [if_neg e,if_neg e];exact ih hs
def upd (κ:Nat→Option Loc) (id:Nat) (l:Loc):Nat→Option Loc:=fun i=>if i=id then some l else κ i
theorem kNone (hI:Inv B w0 g h w) {id:Nat} (hn:hget h id=none):g.κ id=none:=by
 cases hk:g.κ id with
 |none=>rfl
 |some l=>obtain ⟨o,ho⟩:=hI.dom id l hk;rw [hn] at ho;cases ho
theorem Put.alloc (_hI:Inv B w0 g h w) {id:Nat} (hn:g.κ id=none) (o:Go.Obj) (l':Loc) (hb:l'.blk=some w.heap.size):Put g ⟨upd g.κ id l',g.Z⟩ w (w.alloc o) id l' where
 k:=fun _=>rfl
 z:=rfl
 old:=fun l hl=>by rw [hn] at hl;cases hl
 blk:=fun b e=>by rw [hb] at e;cases e;exact .inr (Nat.le_refl _)
 heap:=fun b hlt _=>Below.heap_alloc w o b hlt
 sz:=by simp
 lt:=fun b e=>by rw [hb] at e;cases e;simp
 os:=rfl
 tape:=rfl
 output:=rfl
theorem Put.phantom (_hI:Inv B w0 g h w) {id:Nat} (hn:g.κ id=none) (l':Loc) (hb:l'.blk=none):Put g ⟨upd g.κ id l',g.Z⟩ w w id l' where
 k:=fun _=>rfl
 z:=rfl
 old:=fun l hl=>by rw [hn] at hl;cases hl
 blk:=fun b e=>by rw [hb] at e;cases e
 heap:=fun _ _ _=>rfl
 sz:=Nat.le_refl _
 lt:=fun b e=>by rw [hb] at e;cases e
 os:=rfl
 tape:=rfl
 output:=rfl
theorem alloc_heap (w:World) (o:Go.Obj):(w.alloc o).heap[w.heap.size]? = some o:=by show (w.heap.push o)[w.heap.size]? = _;simp
end
end Go.FI
