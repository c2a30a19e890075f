/- What an operation depends on. -/
import Derived.Test.YtkobnfjeehnhlaaGreatDoorFIReg
set_option linter.all false
namespace Go.FI
open Go.RowKit
variable [Sys]
def cls (cm:Nat→Nat):O→Nat
 |.st .. | .ap .. | .mu .. | .dl .. | .cw .. | .ns .. => 2
 |.cl f _=>cm f
 |.bx .. | .al .. | .bs .. | .ms .. | .nl .. | .mm | .rs .. | .ld .. | .lk .. | .cs .. => 1
 |.ln k _=>if k=2 then 1 else 0
 |_=>0
def makes:O→Bool
 |.bx .. | .al .. | .bs .. | .ms .. | .nl .. | .mm | .rs .. => true
 |_=>false
def O.xs:O→List X
 |.mv x | .un _ x | .ln _ x | .cv _ x | .ld _ x | .fa _ x | .fd _ _ x | .nc x | .ex x _ | .mi _ x | .bx _ x | .sn _ x | .cs x | .ta _ _ x | .pn x | .isn _ x | .rs x | .ns x=>[x]
 |.pk a b c=>[a,b,c]
 |.bo _ a b | .be _ a b | .eq _ _ a b | .ix a b | .mx a b | .mn a b | .ia _ a b | .aa _ _ a b | .ms _ _ a b | .st _ a b | .ap _ _ a b | .lk _ _ _ a b | .dl _ a b | .sx a b | .ib a b | .xa _ _ _ a b=>[a,b]
 |.sl _ x lo hi=>x::(lo.toList ++ hi.toList)
 |.bd _ ps=>ps.map fun p=>p.2.2
 |.bs _ _ _ ps=>ps.map fun p=>p.2
 |.mf _ xs | .cl _ xs=>xs
 |.cw f xs=>f::xs
 |.mu _ a b c=>[a,b,c]
 |.al .. | .nl _ | .mm | .bad=>[]
def Sub (h h':Heap):Prop:=∀ i o,hget h i=some o→hget h' i=some o
theorem Sub.refl (h:Heap):Sub h h:=fun _ _ e=>e
theorem Sub.trans {a b c:Heap} (x:Sub a b) (y:Sub b c):Sub a c:=fun i o e=>y i o (x i o e)
def Stable (cal:Call) (cm:Nat→Nat):Prop:=∀ f,cm f ≤ 1→∀ args h nx v h1 nx1,cal f args h nx=some (v,h1,nx1) →
 h1=h∧nx1=nx∧∀ h' nx',(cm f=0 ∨ Sub h h')→cal f args h' nx'=some (v,h',nx')
section
variable {m m':Tm} {h h':Heap} {cal:Call} {cm:Nat→Nat} {v:FV}
theorem evs_congr {xs:List X} (hx:∀ x ∈ xs,ev m x=ev m' x):evs m xs=evs m' xs:=by
 induction xs with
 |nil=>rfl
 |cons x xs ih=>simp only [evs];rw [hx x (by simp),ih fun y hy=>hx y (by simp [hy])]
theorem optInt_congr {d:Int} {x:Option X} (hx:∀ y ∈ x.toList,ev m y=ev m' y):optInt m d x=optInt m' d x:=by
 cases x with
 |none=>rfl
 |some y=>simp only [optInt];rw [hx y (by simp)]
theorem fillCells_congr {ps:List (Nat × Nat × X)} (hx:∀ x ∈ ps.map (fun p=>p.2.2),ev m x=ev m' x) (cs:List FV):fillCells m cs ps=fillCells m' cs ps:=by
 induction ps generalizing cs with
 |nil=>rfl
 |cons p ps ih =>
  obtain ⟨off,sz,x⟩:=p
  simp only [fillCells]
  rw [hx x (by simp),ih fun y hy=>hx y (by simp at hy ⊢; exact .inr hy)]
theorem fillElems_congr {ps:List (Nat × X)} (hx:∀ x ∈ ps.map (fun p=>p.2),ev m x=ev m' x) (es:Nat) (cs:List FV):fillElems m es cs ps=fillElems m' es cs ps:=by
 induction ps generalizing cs with
 |nil=>rfl
 |cons p ps ih =>
  obtain ⟨off,x⟩:=p
  simp only [fillElems]
  rw [hx x (by simp),ih fun y hy=>hx y (by simp at hy ⊢; exact .inr hy)]
theorem slice_congr {es:Nat} {x:FV} {lo hi:Option X} (h1:∀ d,optInt m d lo=optInt m' d lo) (h2:∀ d,optInt m d hi=optInt m' d hi):slice m es x lo hi=slice m' es x lo hi:=by
 unfold slice
 simp only [h1,h2]
theorem opv_congr {o:O} (hx:∀ x ∈ o.xs,ev m x=ev m' x):opv h m o=opv h m' o:=by
 cases o
 case sl es x lo hi =>
  simp only [O.xs,List.mem_cons,List.mem_append] at hx
  simp only [opv]
  rw [hx x (.inl rfl)]
  exact slice_congr (fun d=>optInt_congr fun y hy=>hx y (.inr (.inl hy))) (fun d=>optInt_congr fun y hy=>hx y (.inr (.inr hy)))
 case bd z ps=>simp only [opv];rw [fillCells_congr hx]
 case mf f caps=>simp only [opv];rw [evs_congr (xs:=caps) hx]
 case ln k x =>
  simp [O.xs] at hx
  match k with
  |0=>simp only [opv,hx]
  |1=>simp only [opv,hx]
  |2=>simp only [opv,hx]
  |n + 3=>rfl
 all_goals first
  |rfl
  |(simp [O.xs] at hx;simp only [opv,hx];done)
theorem opn_congr {o:O} {id:Nat} (hx:∀ x ∈ o.xs,ev m x=ev m' x):opn m id o=opn m' id o:=by
 cases o
 case bs es n z ps=>simp only [opn];rw [fillElems_congr hx]
 all_goals first
  |rfl
  |(simp [O.xs] at hx;simp only [opn,hx];done)
theorem opg_congr {id nx:Nat} {gg:G} (hx:∀ x ∈ gg.op.xs,ev m x=ev m' x):opg cal id gg m h nx=opg cal id gg m' h nx:=by
 obtain ⟨d,gd,o⟩:=gg
 have h1:=opv_congr (h:=h) hx
 have h2:=opn_congr (id:=id) hx
 simp only at hx h1 h2
 cases o
 case cl f xs=>simp only [opg];rw [evs_congr (xs:=xs) hx]
 case cw f xs =>
  simp only [O.xs,List.mem_cons] at hx
  simp only [opg];rw [hx f (.inl rfl),evs_congr fun y hy=>hx y (.inr hy)]
 case st=>simp [O.xs] at hx;simp only [opg,hx]
 case ap=>simp [O.xs] at hx;simp only [opg,hx]
 case lk=>simp [O.xs] at hx;simp only [opg,hx]
 case mu=>simp [O.xs] at hx;simp only [opg,hx]
 case dl=>simp [O.xs] at hx;simp only [opg,hx]
 case ns=>simp [O.xs] at hx;simp only [opg,hx]
 all_goals first
  |(simp only [opg];rw [h1];done)
  |(simp only [opg];rw [h2];done)
theorem loadv_sub (hs:Sub h h') {ag:Option Nat} {x:FV} (hv:loadv h ag x=some v):loadv h' ag x=some v:=by
 unfold loadv at hv ⊢
 split at hv
 ·split at hv
  iterate 2
   ·rename_i hg
    rw [hs _ _ hg];exact hv
  ·simp at hv
 ·exact hv
 ·simp at hv
theorem lookup_sub (hs:Sub h h') {kt:Nat} {z k x:FV} {ok:Bool} (hv:lookup h kt z ok k x=some v):lookup h' kt z ok k x=some v:=by
 unfold lookup at hv ⊢
 split at hv
 ·exact hv
 ·split at hv
  ·rename_i hg
   rw [hs _ _ hg];exact hv
  ·simp at hv
 ·simp at hv
theorem elems_sub (hs:Sub h h') {v:FV} {xs:List FV} (he:elems h v=some xs):elems h' v=some xs:=by
 unfold elems at he ⊢
 split at he
 ·exact he
 ·exact he
 ·split at he
  iterate 2
   ·rename_i hg;rw [hs _ _ hg];exact he
  ·simp at he
 ·simp at he
theorem opv_sub {o:O} (hc:cls cm o=0 ∨ Sub h h') (hv:opv h m o=some v):opv h' m o=some v:=by
 cases o
 case ld ag x =>
  simp only [opv] at hv ⊢
  exact loadv_sub (hc.resolve_left (by simp [cls])) hv
 case ln k x =>
  match k with
  |0=>exact hv
  |1=>exact hv
  |2 =>
   have hs:Sub h h':=hc.resolve_left (by simp [cls])
   simp only [opv] at hv ⊢
   split at hv
   ·split at hv
    ·rename_i hg;rw [hs _ _ hg];exact hv
    ·simp at hv
   ·exact hv
   ·simp at hv
  |n + 3=>exact hv
 case cs x =>
  have hs:Sub h h':=hc.resolve_left (by simp [cls])
  simp only [opv] at hv ⊢
  obtain ⟨xs,k1,k2⟩:=bnd_some hv
  have:sliceElems h' (ev m x)=some xs:=by
   unfold sliceElems at k1 ⊢
   split at k1
   ·simp at k1
   ·exact elems_sub hs k1
  rw [this]
  exact k2
 all_goals exact hv
theorem opg_stable (hst:Stable cal cm) {id nx h1 nx1} {gg:G} (hc:cls cm gg.op ≤ 1) (hm:makes gg.op=false) (hv:opg cal id gg m h nx=some (v,h1,nx1)) :
  h1=h∧nx1=nx∧∀ h' nx',(cls cm gg.op=0 ∨ Sub h h')→opg cal id gg m h' nx'=some (v,h',nx'):=by
 obtain ⟨d,gd,o⟩:=gg
 simp only at hc hm
 have plain:(bnd (opv h m o) fun v=>some (v,h,nx))=some (v,h1,nx1)→h1=h∧nx1=nx∧∀ (h':Heap) (nx':Nat),(cls cm o=0 ∨ Sub h h')→(bnd (opv h' m o) fun v=>some (v,h',nx'))=some (v,h',nx'):=by
  intro hv
  obtain ⟨u,k1,k2⟩:=bnd_some hv
  simp only [Option.some.injEq,Prod.mk.injEq] at k2
  obtain ⟨rfl,rfl,rfl⟩:=k2
  refine ⟨rfl,rfl,fun h' nx' hs=>?_⟩
  rw [opv_sub hs k1];rfl
 cases o
 case cl f xs =>
  simp only [opg] at hv ⊢
  exact hst f hc _ _ _ _ _ _ hv
 case cw=>simp [cls] at hc
 case st=>simp [cls] at hc
 case ap=>simp [cls] at hc
 case mu=>simp [cls] at hc
 case dl=>simp [cls] at hc
 case ns=>simp [cls] at hc
 case lk kt z ok x k =>
  simp only [opg] at hv ⊢
  obtain ⟨u,k1,k2⟩:=bnd_some hv
  simp only [Option.some.injEq,Prod.mk.injEq] at k2
  obtain ⟨rfl,rfl,rfl⟩:=k2
  refine ⟨rfl,rfl,fun h' nx' hs=>?_⟩
  rw [lookup_sub (hs.resolve_left (by simp [cls])) k1];rfl
 all_goals first
  |(simp [makes] at hm;done)
  |exact plain hv
theorem opg_makes {id nx h1 nx1} {gg : G} (hm : makes gg.op = true) (hv : opg cal id gg m h nx = some (v, h1, nx1)) :
    ∃ ob, opn m id gg.op = some (ob, v) ∧ h1 = (id, ob) :: h ∧ nx1 = nx := by
  obtain ⟨d, gd, o⟩ := gg
  cases o <;> first
    | (simp [makes] at hm; done)
    | (simp only [opg] at hv
       obtain ⟨⟨ob, u⟩, k1, k2⟩ := bnd_some hv
       simp only [Option.some.injEq, Prod.mk.injEq] at k2
       obtain ⟨rfl, rfl, rfl⟩ := k2
       exact ⟨ob, k1, rfl, rfl⟩)
theorem okNew_of {P:Program} {op:Op} {q:O} (h:okO P op q=true) (hm:makes q=true):okNew P op q=true:=by
 cases q<;>simp_all [okO,makes]
theorem makes_cls {o:O} (hm:makes o=true):cls cm o=1:=by cases o<;>simp_all [makes,cls]
end
end Go.FI
