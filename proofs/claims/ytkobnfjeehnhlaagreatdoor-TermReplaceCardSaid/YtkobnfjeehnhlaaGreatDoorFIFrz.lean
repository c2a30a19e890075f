/- Values from one scope to another. -/
import Derived.Test.YtkobnfjeehnhlaaGreatDoorFISound
set_option linter.all false
namespace Go.FI
open Go.RowKit
variable [Sys]
theorem pures_iff {vs:List FV}:pures vs=true ↔ ∀ v ∈ vs,pure_ v=true:=by
 induction vs with
 |nil=>simp [pures]
 |cons v vs ih=>simp [pures,ih]
theorem pure_cells {v:FV} (h:pure_ v=true):pures v.cells=true:=by
 cases v<;>simp_all [FV.cells,pures,pure_]
theorem pures_flat {vs:List FV} (h:pures vs=true):pures (vs.flatMap FV.cells)=true:=by
 rw [pures_iff] at h ⊢
 intro c hc
 obtain ⟨v,hv,hcv⟩:=List.mem_flatMap.1 hc
 exact pures_iff.1 (pure_cells (h v hv)) c hcv
section
variable {g g2:Gh} {w w':World}
mutual
theorem R.pure (hz:∀ b,g.Z b→g2.Z b):∀ {v:FV} {x:Value},R g w v x→pure_ v=true→R g2 w v x
 |_,_,.undef v,_=>.undef v
 |_,_,.bool b,_=>.bool b
 |_,_,.int k n,_=>.int k n
 |_,_,.str s,_=>.str s
 |_,_,.agg cs vs hr,h=>.agg cs vs (RL.pure hz hr h)
 |_,_,.tup cs vs hr,h=>.tup cs vs (RL.pure hz hr h)
 |_,_,.lst0 e a cap he,_=>.lst0 e a cap he
 |_,_,.lst e xs b o es cap cs hne he hle hZ hes hx hr hc,h=>.lst e xs b o es cap cs hne he hle (hz b hZ) hes hx (RL.pure hz hr (pures_flat h)) hc
 |_,_,.eptr cs off b o vs hne hZ hr hc,h=>.eptr cs off b o vs hne (hz b hZ) (RL.pure hz hr h) hc
 |_,_,.nilp,_=>.nilp
 |_,_,.nilm,_=>.nilm
 |_,_,.fn f cs vs hlt hr,h=>.fn f cs vs hlt (RL.pure hz hr h)
 |_,_,.nilf,_=>.nilf
 |_,_,.ifc t v x hr,h=>.ifc t v x (R.pure hz hr h)
 |_,_,.nili,_=>.nili
 |_,_,.ptr ..,h=>by simp [pure_] at h
 |_,_,.sref ..,h=>by simp [pure_] at h
 |_,_,.map ..,h=>by simp [pure_] at h
 |_,_,.yl ..,h=>by simp [pure_] at h
theorem RL.pure (hz:∀ b,g.Z b→g2.Z b):∀ {vs:List FV} {xs:List Value},RL g w vs xs→pures vs=true→RL g2 w vs xs
 |_,_,.nil,_=>.nil
 |_,_,.cons v x vs xs hr hs,h=>.cons v x vs xs (R.pure hz hr (by simp [pures] at h;exact h.1)) (RL.pure hz hs (by simp [pures] at h;exact h.2))
end
mutual
theorem R.flat:∀ {v:FV} {x:Value},R g w v x→flat v=true→R g2 w' v x
 |_,_,.undef v,_=>.undef v
 |_,_,.bool b,_=>.bool b
 |_,_,.int k n,_=>.int k n
 |_,_,.str s,_=>.str s
 |_,_,.agg cs vs hr,h=>.agg cs vs (RL.flat hr h)
 |_,_,.tup cs vs hr,h=>.tup cs vs (RL.flat hr h)
 |_,_,.nilp,_=>.nilp
 |_,_,.nilm,_=>.nilm
 |_,_,.nilf,_=>.nilf
 |_,_,.nili,_=>.nili
 |_,_,.ptr ..,h=>by simp [FI.flat] at h
 |_,_,.sref ..,h=>by simp [FI.flat] at h
 |_,_,.map ..,h=>by simp [FI.flat] at h
 |_,_,.yl ..,h=>by simp [FI.flat] at h
 |_,_,.lst0 ..,h=>by simp [FI.flat] at h
 |_,_,.lst ..,h=>by simp [FI.flat] at h
 |_,_,.eptr ..,h=>by simp [FI.flat] at h
 |_,_,.fn ..,h=>by simp [FI.flat] at h
 |_,_,.ifc ..,h=>by simp [FI.flat] at h
theorem RL.flat:∀ {vs:List FV} {xs:List Value},RL g w vs xs→flats vs=true→RL g2 w' vs xs
 |_,_,.nil,_=>.nil
 |_,_,.cons v x vs xs hr hs,h=>.cons v x vs xs (R.flat hr (by simp [flats] at h;exact h.1)) (RL.flat hs (by simp [flats] at h;exact h.2))
end
theorem RL.split {a b:List FV} {cs:List Value} (h:RL g w (a ++ b) cs):∃ c1 c2,cs=c1 ++ c2∧RL g w a c1∧RL g w b c2:=by
 induction a generalizing cs with
 |nil=>exact ⟨[],cs,rfl,.nil,h⟩
 |cons v a ih =>
  cases h with
  |cons _ x _ xs hr hs =>
   obtain ⟨c1,c2,rfl,h1,h2⟩:=ih hs
   exact ⟨x::c1,c2,rfl,.cons _ _ _ _ hr h1,h2⟩
variable {B:Nat} {w0:World} {h h':Heap}
structure FrzV (g g2:Gh) (w:World) (v r:FV):Prop where
 val:∀ x,R g w v x→R g2 w r x
 cells:∀ cs,RL g w v.cells cs→RL g2 w r.cells cs
 len:r.cells.length=v.cells.length
 ok:v.ok=true→r.ok=true
 one:v.one=true→r.one=true
structure FrzL (g g2:Gh) (w:World) (vs rs:List FV):Prop where
 val:∀ xs,RL g w vs xs→RL g2 w rs xs
 flat:∀ cs,RL g w (vs.flatMap FV.cells) cs→RL g2 w (rs.flatMap FV.cells) cs
 len:rs.length=vs.length
 one:vs.all FV.one=true→rs.all FV.one=true
 elems:∀ es,(∀ x ∈ vs,x.cells.length=es∧x.ok=true)→∀ x ∈ rs,x.cells.length=es∧x.ok=true
theorem FrzV.of_pure (hz:∀ b,g.Z b→g2.Z b) {v:FV} (h:pure_ v=true):FrzV g g2 w v v :=
 ⟨fun _ hr=>hr.pure hz h,fun _ hr=>hr.pure hz (pure_cells h),rfl,fun h=>h,fun h=>h⟩
theorem FrzV.of_one {v r:FV} (hv:v.cells=[v]) (hr:r.cells=[r]) (h1:r.one=true) (h2:r.ok=true) (h:∀ x,R g w v x→R g2 w r x):FrzV g g2 w v r :=
 ⟨h,fun cs hc=>by
  rw [hv] at hc;rw [hr]
  cases hc with | cons _ x _ xs h3 h4=>cases h4;exact .cons _ _ _ _ (h x h3) .nil,by rw [hv,hr];rfl,fun _=>h2,fun _=>h1⟩
def Rowish (h:Heap) (id es:Nat) (xs:List FV):Prop:=hget h id=some (.row es xs) ∨ hget h id=some (.fro es xs)
theorem elems_row {es id s off len:Nat} {xs:List FV} (he:elems h (.sref es id s off len)=some xs):∃ es2 ys,Rowish h id es2 ys∧ys.length=s∧off + len ≤ s∧xs=cut ys off (off + len):=by
 simp only [elems] at he
 split at he
 ·rename_i es2 ys hg
  obtain ⟨⟨e1,e2⟩,e3⟩:=chk_some he
  simp only [Option.some.injEq] at e3
  exact ⟨es2,ys,.inl hg,e1,e2,e3.symm⟩
 ·rename_i es2 ys hg
  obtain ⟨⟨e1,e2⟩,e3⟩:=chk_some he
  simp only [Option.some.injEq] at e3
  exact ⟨es2,ys,.inr hg,e1,e2,e3.symm⟩
 ·simp at he
theorem elemAt_row {id s i:Nat} {e:FV} (he:elemAt h id s i=some e):∃ es2 ys,Rowish h id es2 ys∧ys.length=s∧ys[i]? = some e:=by
 simp only [elemAt] at he
 split at he
 ·rename_i es2 ys hg
  obtain ⟨e1,e2⟩:=chk_some he
  exact ⟨es2,ys,.inl hg,e1,e2⟩
 ·rename_i es2 ys hg
  obtain ⟨e1,e2⟩:=chk_some he
  exact ⟨es2,ys,.inr hg,e1,e2⟩
 ·simp at he
theorem Rowish.ok (hI:Inv B w0 g h w) {id es:Nat} {ys:List FV} (hr:Rowish h id es ys) {l:Loc} (hk:g.κ id=some l):RowOk g w l es ys:=by
 rcases hr with hr | hr
 ·exact hI.obj id _ l hr hk
 ·exact (hI.obj id _ l hr hk).1
theorem Rowish.z (hI:Inv B w0 g h w) (hz:∀ b,g.Z b→g2.Z b) {id es:Nat} {ys:List FV} (hr:Rowish h id es ys) {l:Loc} (hk:g.κ id=some l) (ho:∀ es xs,hget h id=some (.row es xs)→∀ l b,g.κ id=some l→l.blk=some b→g2.Z b):∀ b,l.blk=some b→g2.Z b:=by
 intro b hb
 rcases hr with hr | hr
 ·exact ho _ _ hr l b hk hb
 ·exact hz b ((hI.obj id _ l hr hk).2 b hb)
theorem frz_ids (hI:Inv B w0 g h w) (hz:∀ b,g.Z b→g2.Z b) :
  ∀ n,(∀ v r,frz h n v=some r→(∀ i ∈ idV h n v,∀ es xs,hget h i=some (.row es xs)→∀ l b,g.κ i=some l→l.blk=some b→g2.Z b)→FrzV g g2 w v r) ∧
   (∀ vs rs,frzs h n vs=some rs→(∀ i ∈ idL h n vs,∀ es xs,hget h i=some (.row es xs)→∀ l b,g.κ i=some l→l.blk=some b→g2.Z b)→FrzL g g2 w vs rs):=by
 have nilL:FrzL g g2 w [] []:=⟨fun xs hx=>by cases hx;exact .nil,fun cs hc=>by cases hc;exact .nil,rfl,fun h=>h,fun _ _ x hx=>by simp at hx⟩
 intro n
 induction n with
 |zero =>
  constructor
  ·intro v r hf _
   simp only [frz] at hf
   split at hf
   ·rename_i hp
    simp only [Option.some.injEq] at hf;subst hf
    exact .of_pure hz hp
   ·simp at hf
  ·intro vs rs hf _
   cases vs with
   |nil=>simp only [frzs,Option.some.injEq] at hf;subst hf;exact nilL
   |cons v vs=>simp [frzs] at hf
 |succ n ih =>
  obtain ⟨ihV,ihL⟩:=ih
  constructor
  ·intro v r hf ho
   simp only [frz] at hf
   split at hf
   ·rename_i hp
    simp only [Option.some.injEq] at hf;subst hf
    exact .of_pure hz hp
   ·rename_i hnp
    simp only [idV,if_neg hnp] at ho
    split at hf
    ·rename_i cs
     obtain ⟨rs,k1,k2⟩:=bnd_some hf
     simp only [Option.some.injEq] at k2;subst k2
     have q:=ihL _ _ k1 ho
     exact ⟨fun x hx=>by cases hx with | agg _ vs hr=>exact .agg _ _ (q.val _ hr),fun c hc=>q.val _ hc,q.len,fun h=>by simp only [FV.ok] at h ⊢; exact q.one h,fun h=>by simp [FV.one] at h⟩
    ·rename_i cs
     obtain ⟨rs,k1,k2⟩:=bnd_some hf
     simp only [Option.some.injEq] at k2;subst k2
     have q:=ihL _ _ k1 ho
     exact ⟨fun x hx=>by cases hx with | tup _ vs hr=>exact .tup _ _ (q.val _ hr),fun c hc=>by
      simp only [FV.cells] at hc ⊢
      cases hc with | cons _ x _ xs h3 h4=>cases h4;exact .cons _ _ _ _ (by cases h3 with | tup _ vs hr=>exact .tup _ _ (q.val _ hr)) .nil,rfl,fun h=>by simp [FV.ok,FV.one] at h,fun h=>by simp [FV.one] at h⟩
    ·rename_i f cs
     obtain ⟨rs,k1,k2⟩:=bnd_some hf
     simp only [Option.some.injEq] at k2;subst k2
     have q:=ihL _ _ k1 ho
     exact .of_one rfl rfl rfl rfl fun x hx=>by cases hx with | fn _ _ vs hlt hr=>exact .fn _ _ _ hlt (q.val _ hr)
    ·rename_i t u
     obtain ⟨rs,k1,k2⟩:=bnd_some hf
     simp only [Option.some.injEq] at k2;subst k2
     have q:=ihV _ _ k1 ho
     exact .of_one rfl rfl rfl rfl fun x hx=>by cases hx with | ifc _ _ x hr=>exact .ifc _ _ _ (q.val _ hr)
    ·obtain ⟨rs,k1,k2⟩:=bnd_some hf
     simp only [Option.some.injEq] at k2;subst k2
     exact ⟨fun x hx=>(by cases hx),fun cs hc=>(by cases hc with | cons _ _ _ _ h _=>cases h),rfl,fun h=>(by simp [FV.ok,FV.one] at h),fun h=>(by simp [FV.one] at h)⟩
    ·rename_i es id stamp off len
     obtain ⟨hes0,hf⟩:=chk_some hf
     obtain ⟨xs,k1,k2⟩:=bnd_some hf
     obtain ⟨rs,k3,k4⟩:=bnd_some k2
     simp only [Option.some.injEq] at k4;subst k4
     simp only [k1,List.mem_cons,forall_eq_or_imp] at ho
     have q:=ihL _ _ k3 ho.2
     refine .of_one rfl rfl rfl rfl fun x hx=>?_
     cases hx with | sref _ _ _ _ _ l aa cap hk hee hs hle ha hh =>
     obtain ⟨es2,ys,hg,e1,e2,rfl⟩:=elems_row k1
     have hrow:=hg.ok hI hk
     have hzb:=hg.z hI hz hk ho.1
     obtain ⟨q1,q2,q3⟩:=hh (by rw [hrow.hsize];exact e1.symm)
     have hcl:(cut ys off (off + len)).length=len:=by rw [cut_length _ _ _ (by omega)];omega
     have hrl:rs.length=len:=by rw [q.len,hcl]
     by_cases hz0:len=0
     ·subst hz0
      have:rs=[]:=List.eq_nil_of_length_eq_zero hrl
      subst this
      exact .lst0 _ _ _ (fun h=>by simp at h)
     ·obtain ⟨b,hb,rfl⟩:=q3 (by omega)
      obtain ⟨arr,t,r1,r2,r3,cs,r4,r5⟩:=hrow.hsome b hb
      have hels:∀ x ∈ cut ys off (off + len),x.cells.length=es2∧x.ok=true:=fun x hx=>by
       unfold cut at hx
       exact hrow.elems x (List.mem_of_mem_drop (List.mem_of_mem_take hx))
      have hflat:(cut ys off (off + len)).flatMap FV.cells=cut (ys.flatMap FV.cells) (off * es2) ((off + len) * es2):=by
       have hx'':∀ x ∈ ys.drop off,x.cells.length=es2:=fun x hx=>(hrow.elems x (List.mem_of_mem_drop hx)).1
       unfold cut
       rw [flat_drop (fun x hx=>(hrow.elems x hx).1),← Nat.mul_sub_right_distrib,flat_take hx'']
      have hfin:=R.lst (g:=g2) (w:=w) false rs b (off * l.es) es2 cap (cut cs (off * es2) ((off + len) * es2)) (fun e=>by rw [e] at hrl;simp at hrl;omega) (fun h=>by simp at h) (by omega) (hzb b hb) (by have:=hrow.hes;omega)
       (q.elems es2 hels) (q.flat _ (by rw [hflat];exact r4.cut _ _)) (fun j v hj=>by
        have:=r5 _ _ (cut_get _ _ _ _ _ hj)
        rw [hrow.hes]
        simp [World.cell?,r1,this])
      rw [hrl] at hfin
      exact hfin
    ·rename_i id s i off
     obtain ⟨e,k1,k2⟩:=bnd_some hf
     obtain ⟨rs,k3,k4⟩:=bnd_some k2
     obtain ⟨k5,k4⟩:=chk_some k4
     simp only [Option.some.injEq] at k4;subst k4
     simp only [k1,List.mem_cons,forall_eq_or_imp] at ho
     have q:=ihL _ _ k3 ho.2
     refine .of_one rfl rfl rfl rfl fun x hx=>?_
     cases hx with | ptr _ _ _ _ l a hk hs hh =>
     obtain ⟨es2,ys,hg,e1,e2⟩:=elemAt_row k1
     have hrow:=hg.ok hI hk
     have hzb:=hg.z hI hz hk ho.1
     obtain ⟨b,hb,rfl⟩:=hh (by rw [hrow.hsize];exact e1.symm)
     obtain ⟨arr,t,r1,r2,r3,cs,r4,r5⟩:=hrow.hsome b hb
     have hcut:=r4.cut (i * es2) (i * es2 + es2)
     rw [flat_cut (fun y hy=>(hrow.elems y hy).1) e2] at hcut
     refine R.eptr rs off b (i * l.es) _ (fun e=>k5 (by rw [e];rfl)) (hzb b hb) (q.val _ hcut) fun j v hj=>?_
     have:=r5 _ _ (cut_get _ _ _ _ _ hj)
     rw [hrow.hes]
     simp [World.cell?,r1,this]
    ·simp at hf
  ·intro vs rs hf ho
   cases vs with
   |nil=>simp only [frzs,Option.some.injEq] at hf;subst hf;exact nilL
   |cons v vs =>
    simp only [frzs] at hf
    simp only [idL,List.mem_append] at ho
    obtain ⟨r,k1,k2⟩:=bnd_some hf
    obtain ⟨rr,k3,k4⟩:=bnd_some k2
    simp only [Option.some.injEq] at k4;subst k4
    have q1:=ihV _ _ k1 fun i hi=>ho i (.inl hi)
    have q2:=ihL _ _ k3 fun i hi=>ho i (.inr hi)
    refine ⟨fun xs hx=>?_,fun cs hc=>?_,by simp [q2.len],fun h=>?_,fun es h x hx=>?_⟩
    ·cases hx with | cons _ x _ xs h3 h4=>exact .cons _ _ _ _ (q1.val _ h3) (q2.val _ h4)
    ·rw [List.flatMap_cons] at hc ⊢
     obtain ⟨c1,c2,rfl,h1,h2⟩:=hc.split
     exact (q1.cells _ h1).append (q2.flat _ h2)
    ·simp only [List.all_cons,Bool.and_eq_true] at h ⊢
     exact ⟨q1.one h.1,q2.one h.2⟩
    ·rcases List.mem_cons.1 hx with e | e
     ·subst e
      obtain ⟨h1,h2⟩:=h v (by simp)
      exact ⟨by rw [q1.len];exact h1,q1.ok h2⟩
     ·exact q2.elems es (fun y hy=>h y (by simp [hy])) x e
theorem frz_both (hI:Inv B w0 g h w) (hz:∀ b,g.Z b→g2.Z b) (ho:∀ i l b,g.κ i=some l→l.blk=some b→g2.Z b) :
  ∀ n,(∀ v r,frz h n v=some r→FrzV g g2 w v r)∧(∀ vs rs,frzs h n vs=some rs→FrzL g g2 w vs rs):=fun n =>
 ⟨fun v r hf=>(frz_ids hI hz n).1 v r hf fun i _ _ _ _ l b hk hb=>ho i l b hk hb,fun vs rs hf=>(frz_ids hI hz n).2 vs rs hf fun i _ _ _ _ l b hk hb=>ho i l b hk hb⟩
theorem R.uncells {v:FV} {cs:List Value} (hv:v.ok=true) (h:RL g w v.cells cs):∃ x,R g w v x:=by
 cases v with
 |agg vs=>exact ⟨_,.agg _ _ h⟩
 |undef=>exact ⟨.bool true,.undef _⟩
 |_=>cases h with | cons _ x _ _ hr _=>exact ⟨x,hr⟩
theorem RL.unflat:∀ {vs:List FV} {cs:List Value},(∀ v ∈ vs,v.ok=true)→RL g w (vs.flatMap FV.cells) cs→∃ xs,RL g w vs xs:=by
 intro vs
 induction vs with
 |nil=>intro cs _ _;exact ⟨[],.nil⟩
 |cons v vs ih =>
  intro cs ho h
  rw [List.flatMap_cons] at h
  obtain ⟨c1,c2,_,h1,h2⟩:=h.split
  obtain ⟨x,hx⟩:=R.uncells (ho v (by simp)) h1
  obtain ⟨xs,hxs⟩:=ih (fun u hu=>ho u (by simp [hu])) h2
  exact ⟨x::xs,.cons _ _ _ _ hx hxs⟩
theorem ids_known (hI:Inv B w0 g h w):∀ n,(∀ v x,R g w v x→∀ i ∈ idV h n v,∃ l,g.κ i=some l)∧(∀ vs xs,RL g w vs xs→∀ i ∈ idL h n vs,∃ l,g.κ i=some l):=by
 intro n
 induction n with
 |zero=>exact ⟨fun v x _ i hi=>by simp [idV] at hi,fun vs xs _ i hi=>by cases vs<;>simp [idL] at hi⟩
 |succ n ih =>
  obtain ⟨ihV,ihL⟩:=ih
  constructor
  ·intro v x hr i hi
   simp only [idV] at hi
   split at hi
   ·simp at hi
   ·split at hi
    ·cases hr with | agg _ vs hr=>exact ihL _ _ hr i hi
    ·cases hr with | tup _ vs hr=>exact ihL _ _ hr i hi
    ·cases hr with | fn _ _ vs _ hr=>exact ihL _ _ hr i hi
    ·cases hr with | ifc _ _ x hr=>exact ihV _ _ hr i hi
    ·cases hr
    ·rename_i es id s off len _
     cases hr with | sref _ _ _ _ _ l aa cap hk hee hs hle ha hh =>
     rcases List.mem_cons.1 hi with e | hi
     ·exact ⟨l,by rw [e];exact hk⟩
     ·split at hi
      ·rename_i xs he
       obtain ⟨es2,ys,hg,e1,e2,rfl⟩:=elems_row he
       have hrow:=hg.ok hI hk
       cases hb:l.blk with
       |none =>
        obtain ⟨e3,_⟩:=hrow.hnone hb
        subst e3
        have:cut ([]:List FV) off (off + len)=[]:=by simp [cut]
        rw [this] at hi
        cases n<;>simp [idL] at hi
       |some b =>
        obtain ⟨arr,t,r1,r2,r3,cs,r4,r5⟩:=hrow.hsome b hb
        obtain ⟨us,hu⟩:=RL.unflat (fun x hx=>(hrow.elems x hx).2) r4
        exact ihL _ _ (hu.cut _ _) i hi
      ·simp at hi
    ·rename_i id s j off _
     cases hr with | ptr _ _ _ _ l a hk hs hh =>
     rcases List.mem_cons.1 hi with e | hi
     ·exact ⟨l,by rw [e];exact hk⟩
     ·split at hi
      ·rename_i e he
       obtain ⟨es2,ys,hg,e1,e2⟩:=elemAt_row he
       have hrow:=hg.ok hI hk
       cases hb:l.blk with
       |none =>
        obtain ⟨e3,_⟩:=hrow.hnone hb
        subst e3
        simp at e2
       |some b =>
        obtain ⟨arr,t,r1,r2,r3,cs,r4,r5⟩:=hrow.hsome b hb
        have hcut:=r4.cut (j * es2) (j * es2 + es2)
        rw [flat_cut (fun y hy=>(hrow.elems y hy).1) e2] at hcut
        exact ihL _ _ hcut i hi
      ·simp at hi
    ·simp at hi
  ·intro vs xs hr i hi
   cases vs with
   |nil=>simp [idL] at hi
   |cons v vs =>
    cases hr with | cons _ x _ xs h1 h2 =>
    simp only [idL,List.mem_append] at hi
    rcases hi with hi | hi
    ·exact ihV _ _ h1 i hi
    ·exact ihL _ _ h2 i hi
theorem elemAt_sub (hs:Sub h h') {id s i:Nat} {e:FV} (he:elemAt h id s i=some e):elemAt h' id s i=some e:=by
 unfold elemAt at he ⊢
 split at he
 iterate 2
  ·rename_i hg;rw [hs _ _ hg];exact he
 ·simp at he
theorem frz_sub (hs:Sub h h'):∀ n,(∀ v r,frz h n v=some r→frz h' n v=some r)∧(∀ vs rs,frzs h n vs=some rs→frzs h' n vs=some rs):=by
 intro n
 induction n with
 |zero =>
  exact ⟨fun v r h=>by simpa only [frz] using h,fun vs rs h=>by cases vs<;>simpa only [frzs] using h⟩
 |succ n ih =>
  obtain ⟨ihV,ihL⟩:=ih
  constructor
  ·intro v r hf
   simp only [frz] at hf ⊢
   split at hf
   ·rename_i hp;rw [if_pos hp];exact hf
   ·rename_i hp
    rw [if_neg hp]
    split at hf
    ·obtain ⟨rs,k1,k2⟩:=bnd_some hf
     simp only [ihL _ _ k1];exact k2
    ·obtain ⟨rs,k1,k2⟩:=bnd_some hf
     simp only [ihL _ _ k1];exact k2
    ·obtain ⟨rs,k1,k2⟩:=bnd_some hf
     simp only [ihL _ _ k1];exact k2
    ·obtain ⟨rs,k1,k2⟩:=bnd_some hf
     simp only [ihV _ _ k1];exact k2
    ·obtain ⟨rs,k1,k2⟩:=bnd_some hf
     simp only [ihV _ _ k1];exact k2
    ·obtain ⟨hes0,hf⟩:=chk_some hf
     obtain ⟨xs,k1,k2⟩:=bnd_some hf
     obtain ⟨rs,k3,k4⟩:=bnd_some k2
     rw [chk,if_pos hes0]
     simp only [elems_sub hs k1,bnd,ihL _ _ k3];exact k4
    ·obtain ⟨xs,k1,k2⟩:=bnd_some hf
     obtain ⟨rs,k3,k4⟩:=bnd_some k2
     simp only [elemAt_sub hs k1,bnd,ihL _ _ k3];exact k4
    ·simp at hf
  ·intro vs rs hf
   cases vs with
   |nil=>simpa only [frzs] using hf
   |cons v vs =>
    simp only [frzs] at hf ⊢
    obtain ⟨r,k1,k2⟩:=bnd_some hf
    obtain ⟨rr,k3,k4⟩:=bnd_some k2
    simp only [ihV _ _ k1,bnd,ihL _ _ k3];exact k4
def ZF (g:Gh) (h:Heap) (is:List Nat):Nat→Prop:=fun b=>g.Z b ∨ ∃ i ∈ is,∃ es xs,hget h i=some (.row es xs)∧∃ l,g.κ i=some l∧l.blk=some b
theorem froze1 (hI:Inv B w0 g h w) {i es:Nat} {xs:List FV} (hg:hget h i=some (.row es xs)) :
  Inv B w0 ⟨g.κ,fun b=>g.Z b ∨ ∃ l,g.κ i=some l∧l.blk=some b⟩ (hset h i (.fro es xs)) w∧GLe g ⟨g.κ,fun b=>g.Z b ∨ ∃ l,g.κ i=some l∧l.blk=some b⟩ w w:=by
 have hle:GLe g ⟨g.κ,fun b=>g.Z b ∨ ∃ l,g.κ i=some l∧l.blk=some b⟩ w w:=⟨fun b h=>.inl h,fun _ _=>rfl,KLe.refl _⟩
 refine ⟨⟨fun j l hl=>?_,fun j o l ho hl=>?_,hI.inj,fun j l b hl hb=>?_,fun b hb=>?_,hI.below,hI.size⟩,hle⟩
 ·rw [hget_hset hg]
  split
  ·exact ⟨_,rfl⟩
  ·exact hI.dom j l hl
 ·rw [hget_hset hg] at ho
  split at ho
  ·rename_i e
   cases ho
   subst e
   exact ⟨RowOk.mono hle (fun _ _=>rfl) (hI.obj _ _ l hg hl),fun b hb=>.inr ⟨l,hl,hb⟩⟩
  ·exact (hI.obj j o l ho hl).mono hle fun _ _=>rfl
 ·obtain ⟨h1,h2,h3⟩:=hI.own j l b hl hb
  refine ⟨h1,fun hf hz=>?_,h3⟩
  rw [hget_hset hg] at hf
  split at hf
  ·cases hf
  ·rename_i e
   rcases hz with hz | ⟨l2,k1,k2⟩
   ·exact h2 hf hz
   ·exact e (hI.inj j i l l2 b hl k1 hb k2)
 ·rcases hb with hb | ⟨l,k1,k2⟩
  ·exact hI.zlt b hb
  ·exact (hI.own i l b k1 k2).2.2
theorem Inv.zcongr {Z:Nat→Prop} {κ:Nat→Option Loc} {Z':Nat→Prop} (hI:Inv B w0 ⟨κ,Z⟩ h w) (hz:∀ b,Z b ↔ Z' b):Inv B w0 ⟨κ,Z'⟩ h w:=by
 have:Z=Z':=funext fun b=>propext (hz b)
 subst this
 exact hI
theorem froze_inv:∀ (is:List Nat) (g:Gh) (h:Heap),Inv B w0 g h w→Inv B w0 ⟨g.κ,ZF g h is⟩ (froze h is) w:=by
 intro is
 induction is with
 |nil =>
  intro g h hI
  exact Inv.zcongr (κ:=g.κ) (Z:=g.Z) hI fun b=>⟨.inl,fun hb=>by
   rcases hb with hb | ⟨i,hi,_⟩
   ·exact hb
   ·simp at hi⟩
 |cons i is ih =>
  intro g h hI
  simp only [froze]
  split
  ·rename_i es xs hg
   obtain ⟨h1,h2⟩:=froze1 hI hg
   refine (ih _ _ h1).zcongr fun b=>⟨fun hb=>?_,fun hb=>?_⟩
   ·rcases hb with (hb | ⟨l,k1,k2⟩) | ⟨j,hj,es2,xs2,k1,l,k2,k3⟩
    ·exact .inl hb
    ·exact .inr ⟨i,by simp,es,xs,hg,l,k1,k2⟩
    ·rw [hget_hset hg] at k1
     split at k1
     ·cases k1
     ·exact .inr ⟨j,by simp [hj],es2,xs2,k1,l,k2,k3⟩
   ·rcases hb with hb | ⟨j,hj,es2,xs2,k1,l,k2,k3⟩
    ·exact .inl (.inl hb)
    ·by_cases e:j=i
     ·subst e
      exact .inl (.inr ⟨l,k2,k3⟩)
     ·rcases List.mem_cons.1 hj with e' | hj
      ·exact absurd e' e
      ·exact .inr ⟨j,hj,es2,xs2,by rw [hget_hset hg,if_neg e];exact k1,l,k2,k3⟩
  ·rename_i hn
   refine (ih _ _ hI).zcongr fun b=>⟨fun hb=>?_,fun hb=>?_⟩
   ·rcases hb with hb | ⟨j,hj,r⟩
    ·exact .inl hb
    ·exact .inr ⟨j,by simp [hj],r⟩
   ·rcases hb with hb | ⟨j,hj,es2,xs2,k1,r⟩
    ·exact .inl hb
    ·rcases List.mem_cons.1 hj with e | hj
     ·subst e;exact absurd k1 (hn es2 xs2)
     ·exact .inr ⟨j,hj,es2,xs2,k1,r⟩
theorem froze_get {j:Nat}:∀ (is:List Nat) (h:Heap),j ∉ is→hget (froze h is) j=hget h j:=by
 intro is
 induction is with
 |nil=>intro h _;rfl
 |cons i is ih =>
  intro h hj
  simp only [List.mem_cons,not_or] at hj
  simp only [froze]
  split
  ·rename_i hg
   rw [ih _ hj.2,hget_hset hg,if_neg hj.1]
  ·exact ih _ hj.2
theorem froze_none {j:Nat}:∀ (is:List Nat) (h:Heap),hget h j=none→hget (froze h is) j=none:=by
 intro is
 induction is with
 |nil=>intro h hj;exact hj
 |cons i is ih =>
  intro h hj
  simp only [froze]
  split
  ·rename_i hg
   refine ih _ ?_
   rw [hget_hset hg]
   split
   ·rename_i e;subst e;rw [hj] at hg;cases hg
   ·exact hj
  ·exact ih _ hj
end
end Go.FI
