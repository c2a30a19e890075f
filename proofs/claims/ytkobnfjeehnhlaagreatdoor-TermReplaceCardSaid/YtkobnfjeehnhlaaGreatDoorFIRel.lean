/- How the interpreter's values stand to the machine's. -/
import Derived.Test.YtkobnfjeehnhlaaGreatDoorFIDef
import Derived.RowKit3
import Derived.Laws.StructEq
import Derived.Below
set_option linter.all false
namespace Go.FI
open Go.RowKit
class Sys where
 gl:Nat→List FV→Bool
 rk:Nat→Loop→List Nat→Prop
 glp:∀ k cs,gl k cs=true→pures cs=true
variable [Sys]
structure Loc where
 blk:Option Nat
 size:Nat
 es:Nat
 cap:Nat
 mp:Bool:=false
 lp:Option Loop:=none
structure Gh where
 κ:Nat→Option Loc
 Z:Nat→Prop
mutual
inductive R (g:Gh) (w:World):FV→Value→Prop
 |undef (v:Value):R g w .undef v
 |bool (b:Bool):R g w (.bool b) (.bool b)
 |int (k:IntKind) (n:Int):R g w (.int k n) (.int k n)
 |str (s:ByteArray):R g w (.str s.data.toList) (.string s)
 |agg (cs:List FV) (vs:List Value) (h:RL g w cs vs):R g w (.agg cs) (.agg vs.toArray)
 |tup (cs:List FV) (vs:List Value) (h:RL g w cs vs):R g w (.tup cs) (.tuple vs.toArray)
 |lst0 (e:Bool) (a:Option Addr) (cap:Nat) (h:e=true→cap=0):R g w (.lst e []) (.slice a 0 cap)
 |lst (e:Bool) (xs:List FV) (b o es cap:Nat) (cs:List Value) (hne:xs ≠ []) (he:e=true→cap=xs.length) (hle:xs.length ≤ cap) (hZ:g.Z b) (hes:0 < es)
   (hx:∀ x ∈ xs,x.cells.length=es∧x.ok=true) (hr:RL g w (xs.flatMap FV.cells) cs) (hc:∀ (j:Nat) v,cs[j]? = some v→w.cell? ⟨b,o + j,none⟩=some v) :
   R g w (.lst e xs) (.slice (some ⟨b,o,none⟩) xs.length cap)
 |eptr (cs:List FV) (off b o:Nat) (vs:List Value) (hne:cs ≠ []) (hZ:g.Z b) (hr:RL g w cs vs) (hc:∀ (j:Nat) v,vs[j]? = some v→w.cell? ⟨b,o + j,none⟩=some v) :
   R g w (.eptr cs off) (.pointer (some ⟨b,o + off,none⟩))
 |ptr (id s i off:Nat) (l:Loc) (a:Addr) (hk:g.κ id=some l) (hs:s ≤ l.size) (h:s=l.size→∃ b,l.blk=some b∧a=⟨b,i * l.es + off,none⟩) :
   R g w (.ptr id s i off) (.pointer (some a))
 |nilp:R g w .nilp (.pointer none)
 |sref (es id s off len:Nat) (l:Loc) (a:Option Addr) (cap:Nat) (hk:g.κ id=some l) (he:l.es=es) (hs:s ≤ l.size) (hle:len ≤ cap) (ha:0 < cap→a.isSome=true)
   (h:s=l.size→s ≤ off + cap∧off + cap ≤ l.cap∧(0 < cap→∃ b,l.blk=some b∧a=some ⟨b,off * l.es,none⟩)) :
   R g w (.sref es id s off len) (.slice a len cap)
 |map (id b:Nat) (l:Loc) (hk:g.κ id=some l) (hm:l.mp=true) (hb:l.blk=some b):R g w (.map id) (.map (some b))
 |nilm:R g w .nilm (.map none)
 |fn (f:Nat) (cs:List FV) (vs:List Value) (hlt:f < RB) (h:RL g w cs vs):R g w (.fn f cs) (.func (.func f) #[] vs.toArray)
 |nilf:R g w .nilf .nilFunc
 |ifc (t:Nat) (v:FV) (x:Value) (h:R g w v x):R g w (.ifc t v) (.iface t x)
 |nili:R g w .nili .nilIface
 |yl (f id:Nat) (cs:List FV) (l:Loc) (b:Nat) (r:Loop) (ct:List Nat) (hge:RB ≤ f) (hk:g.κ id=some l) (hm:l.mp=true) (hb:l.blk=some b) (hr:l.lp=some r) (hf:Sys.rk f r ct) (hc:RL g w cs (ct.map fun t=>r.tmps.getD t undef)) :
   R g w (.yl f id cs) (.func (.yield b) #[] #[])
inductive RL (g:Gh) (w:World):List FV→List Value→Prop
 |nil:RL g w [] []
 |cons (v:FV) (x:Value) (vs:List FV) (xs:List Value) (h:R g w v x) (hs:RL g w vs xs):RL g w (v::vs) (x::xs)
end
def KLe (κ κ':Nat→Option Loc):Prop:=∀ id l,κ id=some l→∃ l',κ' id=some l'∧l.size ≤ l'.size∧l'.es=l.es∧(l'.size=l.size ∨ l.mp=true→l'=l)
theorem KLe.refl (κ:Nat→Option Loc):KLe κ κ:=fun _ l h=>⟨l,h,Nat.le_refl _,rfl,fun _=>rfl⟩
theorem KLe.trans {a b c:Nat→Option Loc} (h:KLe a b) (k:KLe b c):KLe a c:=fun id l hl=>by
 obtain ⟨l1,h1,h2,h3,h4⟩:=h id l hl
 obtain ⟨l2,k1,k2,k3,k4⟩:=k id l1 h1
 refine ⟨l2,k1,Nat.le_trans h2 k2,k3.trans h3,fun e=>?_⟩
 rcases e with e | e
 ·have e1:l1.size=l.size:=by omega
  have e2:l2.size=l1.size:=by omega
  rw [k4 (.inl e2),h4 (.inl e1)]
 ·have:=h4 (.inr e)
  subst this
  exact k4 (.inr e)
structure GLe (g g':Gh) (w w':World):Prop where
 z:∀ b,g.Z b→g'.Z b
 heap:∀ b,g.Z b→w'.heap[b]? = w.heap[b]?
 k:KLe g.κ g'.κ
theorem GLe.refl (g:Gh) (w:World):GLe g g w w:=⟨fun _ h=>h,fun _ _=>rfl,KLe.refl _⟩
theorem GLe.trans {g g' g'':Gh} {w w' w'':World} (h:GLe g g' w w') (k:GLe g' g'' w' w''):GLe g g'' w w'' :=
 ⟨fun b hb=>k.z b (h.z b hb),fun b hb=>(k.heap b (h.z b hb)).trans (h.heap b hb),h.k.trans k.k⟩
theorem cell_of_heap {w w':World} {a:Addr} (h:w'.heap[a.block]? = w.heap[a.block]?):w'.cell? a=w.cell? a:=by
 simp only [World.cell?,h]
mutual
theorem R.mono {g g':Gh} {w w':World} (h:GLe g g' w w'):∀ {v:FV} {x:Value},R g w v x→R g' w' v x
 |_,_,.undef v=>.undef v
 |_,_,.bool b=>.bool b
 |_,_,.int k n=>.int k n
 |_,_,.str s=>.str s
 |_,_,.agg cs vs hr=>.agg cs vs (RL.mono h hr)
 |_,_,.tup cs vs hr=>.tup cs vs (RL.mono h hr)
 |_,_,.lst0 e a cap he=>.lst0 e a cap he
 |_,_,.lst e xs b o es cap cs hne he hle hZ hes hx hr hc =>
  .lst e xs b o es cap cs hne he hle (h.z b hZ) hes hx (RL.mono h hr) fun j v hj=>by
   rw [cell_of_heap (a:=⟨b,o + j,none⟩) (h.heap b hZ)];exact hc j v hj
 |_,_,.eptr cs off b o vs hne hZ hr hc =>
  .eptr cs off b o vs hne (h.z b hZ) (RL.mono h hr) fun j v hj=>by
   rw [cell_of_heap (a:=⟨b,o + j,none⟩) (h.heap b hZ)];exact hc j v hj
 |_,_,.ptr id s i off l a hk hs hh=>by
  obtain ⟨l',h1,h2,h3,h4⟩:=h.k id l hk
  exact .ptr id s i off l' a h1 (Nat.le_trans hs h2) fun e=>by
   have:l'=l:=h4 (.inl (by omega))
   subst this;exact hh e
 |_,_,.nilp=>.nilp
 |_,_,.sref es id s off len l a cap hk he hs hle ha hh=>by
  obtain ⟨l',h1,h2,h3,h4⟩:=h.k id l hk
  exact .sref es id s off len l' a cap h1 (h3.trans he) (Nat.le_trans hs h2) hle ha fun e=>by
   have:l'=l:=h4 (.inl (by omega))
   subst this;exact hh e
 |_,_,.map id b l hk hm hb=>by
  obtain ⟨l',h1,h2,h3,h4⟩:=h.k id l hk
  have:l'=l:=h4 (.inr hm)
  subst this
  exact .map id b l' h1 hm hb
 |_,_,.nilm=>.nilm
 |_,_,.fn f cs vs hlt hr=>.fn f cs vs hlt (RL.mono h hr)
 |_,_,.nilf=>.nilf
 |_,_,.ifc t v x hr=>.ifc t v x (R.mono h hr)
 |_,_,.nili=>.nili
 |_,_,.yl f id cs l b r ct hge hk hm hb hr hf hc=>by
  obtain ⟨l',h1,h2,h3,h4⟩:=h.k id l hk
  have:l'=l:=h4 (.inr hm)
  subst this
  exact .yl f id cs l' b r ct hge h1 hm hb hr hf (RL.mono h hc)
theorem RL.mono {g g':Gh} {w w':World} (h:GLe g g' w w'):∀ {vs:List FV} {xs:List Value},RL g w vs xs→RL g' w' vs xs
 |_,_,.nil=>.nil
 |_,_,.cons v x vs xs hr hs=>.cons v x vs xs (R.mono h hr) (RL.mono h hs)
end
section
variable {g:Gh} {w:World}
theorem RL.length {vs:List FV} {xs:List Value} (h:RL g w vs xs):vs.length=xs.length:=by
 induction vs generalizing xs with
 |nil=>cases h;rfl
 |cons v vs ih=>cases h with | cons _ x _ xs hr hs=>simp [ih hs]
theorem RL.append {a b:List FV} {x y:List Value} (h:RL g w a x) (k:RL g w b y):RL g w (a ++ b) (x ++ y):=by
 induction a generalizing x with
 |nil=>cases h;exact k
 |cons v vs ih=>cases h with | cons _ z _ zs hr hs=>exact .cons v z _ _ hr (ih hs)
theorem RL.get {vs:List FV} {xs:List Value} (h:RL g w vs xs) (i:Nat) (v:FV) (hv:vs[i]? = some v):∃ x,xs[i]? = some x∧R g w v x:=by
 induction vs generalizing xs i with
 |nil=>simp at hv
 |cons u vs ih =>
  cases h with
  |cons _ z _ zs hr hs =>
   cases i with
   |zero=>simp at hv;subst hv;exact ⟨z,rfl,hr⟩
   |succ i=>simp at hv;exact ih hs i hv
theorem RL.take {vs:List FV} {xs:List Value} (h:RL g w vs xs) (n:Nat):RL g w (vs.take n) (xs.take n):=by
 induction vs generalizing xs n with
 |nil=>cases h;simp;exact .nil
 |cons u vs ih =>
  cases h with
  |cons _ z _ zs hr hs =>
   cases n with
   |zero=>exact .nil
   |succ n=>exact .cons _ _ _ _ hr (ih hs n)
theorem RL.drop {vs:List FV} {xs:List Value} (h:RL g w vs xs) (n:Nat):RL g w (vs.drop n) (xs.drop n):=by
 induction vs generalizing xs n with
 |nil=>cases h;simp;exact .nil
 |cons u vs ih =>
  cases h with
  |cons _ z _ zs hr hs =>
   cases n with
   |zero=>exact .cons _ _ _ _ hr hs
   |succ n=>exact ih hs n
theorem RL.cut {vs:List FV} {xs:List Value} (h:RL g w vs xs) (i j:Nat):RL g w (cut vs i j) (cut xs i j):=(h.drop i).take (j - i)
theorem RL.set {vs:List FV} {xs:List Value} (h:RL g w vs xs) (i:Nat) {v:FV} {x:Value} (hv:R g w v x):RL g w (vs.set i v) (xs.set i x):=by
 induction vs generalizing xs i with
 |nil=>cases h;exact .nil
 |cons u vs ih =>
  cases h with
  |cons _ z _ zs hr hs =>
   cases i with
   |zero=>exact .cons _ _ _ _ hv hs
   |succ i=>exact .cons _ _ _ _ hr (ih hs i)
theorem RL.splice {vs us:List FV} {xs ys:List Value} (h:RL g w vs xs) (k:RL g w us ys) (off:Nat):RL g w (splice vs off us) (xs.take off ++ ys ++ xs.drop (off + ys.length)):=by
 unfold FI.splice
 rw [k.length]
 exact ((h.take off).append k).append (h.drop _)
theorem R.cells {v:FV} {x:Value} (h:R g w v x) (hs:v.ok=true):RL g w v.cells x.cells.toList:=by
 cases h<;>first
  |(simp [FV.ok,FV.one] at hs;done)
  |(simp only [FV.cells,Value.cells];assumption)
  |(simp only [FV.cells,Value.cells];exact .cons _ _ _ _ (by constructor<;>assumption) .nil)
theorem cut_get {α:Type} (l:List α) (a b j:Nat) (v:α) (h:(cut l a b)[j]? = some v):l[a + j]? = some v:=by
 unfold cut at h
 rw [List.getElem?_take] at h
 split at h
 ·simpa [List.getElem?_drop] using h
 ·simp at h
theorem cut_length {α:Type} (l:List α) (a b:Nat) (h:b ≤ l.length):(cut l a b).length=b - a:=by
 simp [cut];omega
theorem flat_length {xs:List FV} {es:Nat} (hx:∀ x ∈ xs,x.cells.length=es):(xs.flatMap FV.cells).length=xs.length * es:=by
 induction xs with
 |nil=>simp
 |cons x xs ih =>
  simp only [List.flatMap_cons,List.length_append,List.length_cons]
  rw [ih (fun y hy=>hx y (by simp [hy])),hx x (by simp),Nat.add_mul];omega
theorem flat_drop {xs:List FV} {es:Nat} (hx:∀ x ∈ xs,x.cells.length=es) (i:Nat):(xs.flatMap FV.cells).drop (i * es)=(xs.drop i).flatMap FV.cells:=by
 induction xs generalizing i with
 |nil=>simp
 |cons x xs ih =>
  cases i with
  |zero=>simp
  |succ i =>
   have h0:=hx x (by simp)
   have e:(i + 1) * es=x.cells.length + i * es:=by rw [h0,Nat.add_mul];omega
   rw [List.flatMap_cons,e,← List.drop_drop,List.drop_left,List.drop_succ_cons]
   exact ih (fun y hy=>hx y (by simp [hy])) i
theorem flat_take {xs:List FV} {es:Nat} (hx:∀ x ∈ xs,x.cells.length=es) (i:Nat):(xs.flatMap FV.cells).take (i * es)=(xs.take i).flatMap FV.cells:=by
 induction xs generalizing i with
 |nil=>simp
 |cons x xs ih =>
  cases i with
  |zero=>simp
  |succ i =>
   have h0:=hx x (by simp)
   have e:(i + 1) * es=x.cells.length + i * es:=by rw [h0,Nat.add_mul];omega
   rw [List.flatMap_cons,e,List.take_append,List.take_succ_cons,List.flatMap_cons]
   rw [List.take_of_length_le (by omega),Nat.add_sub_cancel_left,ih (fun y hy=>hx y (by simp [hy])) i]
theorem flat_cut {xs:List FV} {es:Nat} (hx:∀ x ∈ xs,x.cells.length=es) {i:Nat} {x:FV} (hi:xs[i]? = some x):cut (xs.flatMap FV.cells) (i * es) (i * es + es)=x.cells:=by
 unfold cut
 rw [flat_drop hx,Nat.add_sub_cancel_left]
 have hlt:i < xs.length:=(List.getElem?_eq_some_iff.1 hi).1
 have he:xs[i]=x:=(List.getElem?_eq_some_iff.1 hi).2
 rw [List.drop_eq_getElem_cons hlt,List.flatMap_cons,he]
 have:x.cells.length=es:=hx x (by rw [← he];exact List.getElem_mem hlt)
 rw [← this]
 simp
theorem flat_set {xs:List FV} {es:Nat} (hx:∀ x ∈ xs,x.cells.length=es) {i:Nat} (hi:i < xs.length) {v:FV} (hv:v.cells.length=es) :
  splice (xs.flatMap FV.cells) (i * es) v.cells=(xs.set i v).flatMap FV.cells:=by
 unfold splice
 have e:i * es + v.cells.length=(i + 1) * es:=by rw [hv,Nat.add_mul];omega
 rw [e,flat_take hx,flat_drop hx,List.set_eq_take_append_cons_drop,if_pos hi]
 simp
structure RowOk (g:Gh) (w:World) (l:Loc) (es:Nat) (xs:List FV):Prop where
 hmp:l.mp=false
 hsize:l.size=xs.length
 hes:l.es=es
 pos:True
 elems:∀ x ∈ xs,x.cells.length=es∧x.ok=true
 hnone:l.blk=none→xs=[]∧l.cap=0
 hsome:∀ b,l.blk=some b→∃ arr t,w.heap[b]? = some (.cells arr t (0,0))∧arr.size=l.cap * es∧xs.length ≤ l.cap∧∃ cs,RL g w (xs.flatMap FV.cells) cs∧∀ (j:Nat) v,cs[j]? = some v→arr[j]? = some v
inductive EnOk (g:Gh) (w:World):List (FV × FV)→List MapEntry→Prop
 |nil:EnOk g w [] []
 |cons (k v:FV) (e:MapEntry) (en:List (FV × FV)) (es:List MapEntry) (hk:R g w k e.key) (hv:R g w v e.val) (hs:EnOk g w en es):EnOk g w ((k,v)::en) (e::es)
def Stamps (es:List MapEntry) (clock:Nat):Prop:=(∀ e ∈ es,e.born < clock)∧(es.map (·.born)).Nodup
structure MapOk (g:Gh) (w:World) (l:Loc) (en:List (FV × FV)):Prop where
 hmp:l.mp=true
 hlp:l.lp=none
 hsome:∃ b es clock,l.blk=some b∧w.heap[b]? = some (.map es clock)∧EnOk g w en es.toList∧Stamps es.toList clock
def stO:Nat→LoopState
 |0=>.ready
 |1=>.busy
 |2=>.done
 |_=>.exhausted
def jpO:Nat→Option Code
 |0=>none
 |1=>some .ret
 |e + 2=>some (.exit e)
structure LpOk (w:World) (l:Loc) (st jp:Nat):Prop where
 hmp:l.mp=true
 hsome:∃ b r,l.blk=some b∧l.lp=some r∧w.heap[b]? = some (.loop { r with state:=stO st,pending:=jpO jp })
structure SitOk (w:World) (l:Loc) (s:List UInt8) (pos:Nat):Prop where
 hmp:l.mp=true
 hlp:l.lp=none
 hsize:l.size=1
 hsome:∃ b,l.blk=some b∧w.heap[b]? = some (.stringIter ⟨s.toArray⟩ pos)
structure MitOk (g:Gh) (w:World) (l:Loc):Prop where
 hmp:l.mp=true
 hlp:l.lp=none
 hsize:l.size=1
 hsome:∃ b m s sn k,l.blk=some b∧g.Z b∧w.heap[b]? = some (.mapIter m s sn k)
def ObjOk (g:Gh) (w:World) (l:Loc):Obj→Prop
 |.row es xs=>RowOk g w l es xs
 |.fro es xs=>RowOk g w l es xs∧∀ b,l.blk=some b→g.Z b
 |.mp en=>MapOk g w l en
 |.lp st jp=>LpOk w l st jp
 |.fmp en=>MapOk g w l en∧∀ b,l.blk=some b→g.Z b
 |.sit s pos=>SitOk w l s pos
 |.mit=>MitOk g w l
def isFro:Option Obj→Bool
 |some (.fro _ _)=>true
 |some (.fmp _)=>true
 |some .mit=>true
 |_=>false
structure Inv (B:Nat) (w0:World) (g:Gh) (h:Heap) (w:World):Prop where
 dom:∀ id l,g.κ id=some l→∃ o,hget h id=some o
 obj:∀ id o l,hget h id=some o→g.κ id=some l→ObjOk g w l o
 inj:∀ i j li lj b,g.κ i=some li→g.κ j=some lj→li.blk=some b→lj.blk=some b→i=j
 own:∀ i l b,g.κ i=some l→l.blk=some b→B ≤ b∧(isFro (hget h i)=false→¬ g.Z b)∧b < w.heap.size
 zlt:∀ b,g.Z b→b < w.heap.size
 below:Below B w0 w
 size:B ≤ w.heap.size
theorem Inv.obj' {B:Nat} {w0:World} {h:Heap} (hI:Inv B w0 g h w) {id:Nat} {l:Loc} {o:Obj} (hk:g.κ id=some l) (hg:hget h id=some o):∃ l',g.κ id=some l'∧ObjOk g w l' o:=⟨l,hk,hI.obj id o l hg hk⟩
end
end Go.FI
