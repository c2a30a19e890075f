/- append. -/
import Derived.Test.YtkobnfjeehnhlaaGreatDoorFIEff
set_option linter.all false
namespace Go.FI
open Go.RowKit
variable [Sys]
section
variable {g g':Gh} {w w':World} {P:Program} {B:Nat} {w0:World} {h h':Heap} {a:Act} {m:Tm} {dst:Option Tmp} {op:Op} {ty:TypeId} {pos:String} {aft:Array Edge} {gd:Option (Nat × Bool)} {v:FV}
theorem GLe.of_heap (hw:w'.heap=w.heap):GLe g g w w':=⟨fun _ h=>h,fun b _=>by rw [hw],KLe.refl _⟩
theorem GLe.drew (g:Gh) (w:World):GLe g g w w.drew:=⟨fun _ h=>h,fun _ _=>rfl,KLe.refl _⟩
theorem Inv.of_heap (hI:Inv B w0 g h w) (hw:w'.heap=w.heap) (h1:w'.os=w.os) (h2:w'.tape=w.tape) (h3:w'.output=w.output):Inv B w0 g h w' :=
 ⟨hI.dom,fun id o l ho hl=>(hI.obj id o l ho hl).mono (GLe.of_heap hw) fun b _=>by rw [hw],hI.inj,fun i l b hl hb=>by rw [hw];exact hI.own i l b hl hb,fun b hb=>by rw [hw];exact hI.zlt b hb,
  hI.below.trans ⟨h1,h2,h3,by rw [hw];exact Nat.le_refl _,fun k _=>by rw [hw]⟩,by rw [hw];exact hI.size⟩
theorem Inv.drew (hI:Inv B w0 g h w):Inv B w0 g h w.drew:=hI.of_heap rfl rfl rfl rfl
theorem Put.move (_hI:Inv B w0 g h w) {id:Nat} {l:Loc} (hk:g.κ id=some l) (hm:l.mp=false) (o:Go.Obj) (l':Loc) (hb:l'.blk=some w.heap.size) (hs:l.size < l'.size) (he:l'.es=l.es):Put g ⟨upd g.κ id l',g.Z⟩ w (w.alloc o) id l' where
 k:=fun _=>rfl
 z:=rfl
 old:=fun l2 hl=>by rw [hk] at hl;cases hl;exact ⟨by omega,he,fun e=>by rcases e with e | e;omega;rw [hm] at e;cases e⟩
 blk:=fun b e=>by rw [hb] at e;cases e;exact .inr (Nat.le_refl _)
 heap:=fun b hlt _=>Below.heap_alloc w o b hlt
 sz:=by simp
 lt:=fun b e=>by rw [hb] at e;cases e;simp
 os:=rfl
 tape:=rfl
 output:=rfl
theorem elemIs_of {e:TypeId} {es by_:Nat} (hh:elemIs P e es by_=true):0 < es∧0 < by_∧∃ i z,P.info? e=some i∧i.zero=some z∧i.size=es∧i.bytes=by_∧z.cells.size=es:=by
 unfold elemIs at hh
 simp only [Bool.and_eq_true,decide_eq_true_eq] at hh
 obtain ⟨⟨h1,h2⟩,h3⟩:=hh
 refine ⟨h1,h2,?_⟩
 split at h3
 ·split at h3
  ·simp only [Bool.and_eq_true,beq_iff_eq] at h3
   exact ⟨_,_,by assumption,by assumption,h3.1.1,h3.1.2,h3.2⟩
  ·simp at h3
 ·simp at h3
theorem all_len {ys:List FV} {es:Nat} (hh:(ys.all fun v=>v.cells.length == es)=true):∀ z ∈ ys,z.cells.length=es:=by
 simpa using hh
theorem zeroCells_size (z:Array Value) (n:Nat):(Builtin.zeroCells z n).size=n * z.size:=by simp [Builtin.zeroCells]
theorem ok_flat {ys:List FV} (hh:ys.all FV.ok=true):∀ c ∈ ys.flatMap FV.cells,c.one=true:=by
 intro c hc
 obtain ⟨y,hy,hcy⟩:=List.mem_flatMap.1 hc
 rw [List.all_eq_true] at hh
 exact ok_cells (hh y hy) c hcy
theorem flat_splice {xs ys:List FV} {es:Nat} (hx:∀ x ∈ xs,x.cells.length=es) (hy:∀ x ∈ ys,x.cells.length=es) (k:Nat):(xs.take k ++ ys ++ xs.drop (k + ys.length)).flatMap FV.cells=splice (xs.flatMap FV.cells) (k * es) (ys.flatMap FV.cells):=by
 unfold splice
 rw [flat_length hy,flat_take hx,← Nat.add_mul,flat_drop hx]
 simp
theorem append_sound (hI:Inv B w0 g h w) {id es by_:Nat} {x y:FV} {vx vy:Value} (hx:R g w x vx) (hy:R g w y vy) (hn:hget h id=none) {t t2 e:TypeId} (ht:P.underlying t=some (.slice e)) (h2:isDesc P t2 isSeq=true) (he:elemIs P e es by_=true)
  (hh:append h id es by_ x y=some (v,h')) :
  ∃ g' w' z,(Builtin.append_ #[t,t2] ty #[vx,vy]).run P w=.ok z w'∧R g' w' v z∧Inv B w0 g' h' w'∧GLe g g' w w'∧(∀ b,g'.Z b→g.Z b ∨ w.heap.size ≤ b)∧w.heap.size ≤ w'.heap.size∧∀ i,¬ i=id→g.κ i=none→g'.κ i=none∧hget h' i=hget h i:=by
 obtain ⟨hp,hb,i,z,hi,hz,hsz,hby,hzl⟩:=elemIs_of he
 unfold append at hh
 obtain ⟨ys,hys,hh1⟩:=bnd_some hh
 clear hh
 obtain ⟨⟨hok,hlen⟩,hh⟩:=chk_some hh1
 clear hh1
 have hle:=all_len hlen
 have hoke:∀ z ∈ ys,z.cells.length=es∧z.ok=true:=fun z hz=>⟨hle z hz,by rw [List.all_eq_true] at hok;exact hok z hz⟩
 obtain ⟨news,n1,n2,n3⟩:=elems_sound (P:=P) hI hy hys hp hle
 have n2w:=n2 w rfl
 have n3w:=n3 w rfl
 have n3d:=n3 w.drew rfl
 rw [← hsz] at n3w n3d
 have hnl:news.size=ys.length * es:=by have:=n1.length;rw [flat_length hle] at this;simpa using this.symm
 split at hh
 ·-- an exact slice: always a new block
  rename_i xs
  obtain ⟨⟨k1,k2,k3⟩,k4⟩:=chk_some hh
  clear hh
  simp only [Option.some.injEq,Prod.mk.injEq] at k4
  obtain ⟨rfl,rfl⟩:=k4
  have hxl:=all_len k3
  obtain ⟨olds,o1,o2,o3⟩:=elems_sound (P:=P) hI hx (rfl:elems h (.lst true xs)=some xs) hp hxl
  have hol:olds.size=xs.length * es:=by have:=o1.length;rw [flat_length hxl] at this;simpa using this.symm
  have hxok:∀ z ∈ xs ++ ys,z.cells.length=es∧z.ok=true:=by
   intro z hz
   rcases List.mem_append.1 hz with hz | hz
   ·refine ⟨hxl z hz,?_⟩
    cases hx with
    |lst0=>simp at hz
    |lst _ _ _ _ _ _ _ _ _ _ _ _ hx' _ _=>exact (hx' z hz).2
   ·exact hoke z hz
  have:∃ aa,vx=.slice aa xs.length xs.length:=by
   cases hx with
   |lst0 _ aa cap he=>have:=he rfl;subst this;exact ⟨_,rfl⟩
   |lst _ _ b o _ cap _ _ he=>have:=he rfl;subst this;exact ⟨_,rfl⟩
  obtain ⟨aa,rfl⟩:=this
  have o3d:=o3 w.drew rfl
  rw [← hsz] at o3d
  have hrun:=ap_grow (ty:=ty) ht h2 hi hz (by omega) aa xs.length xs.length ys.length vy olds news n2w n3d o3d (by omega) (by rw [hby];exact k1)
  have hge:=grownCap_ge w (xs.length + ys.length) xs.length e
  obtain ⟨g',q1,q2,q3,q4,kk⟩:=new_row (t:=e) (es:=es) (xs:=xs ++ ys) (cells:=olds ++ news ++ Builtin.zeroCells z.cells (grownCap w (xs.length + ys.length) xs.length e - (xs.length + ys.length))) (cs:=olds.toList ++ news.toList) (hI.drew) (kNone hI hn) (hget_cons h id _) (grownCap w (xs.length + ys.length) xs.length e) (by simp;omega)
   (by simp [zeroCells_size,hol,hnl,hzl];rw [← Nat.add_mul,← Nat.add_mul];congr 1;omega)
   (by simpa using (o1.append n1).mono (GLe.drew g w)) (fun j v hj=>by
    have hj':(olds ++ news).toList[j]? = some v:=by simpa using hj
    rw [← Array.getElem?_toList,Array.toList_append,List.getElem?_append_left (List.getElem?_eq_some_iff.1 hj').1]
    exact hj') hxok hp
  refine ⟨g',_,_,hrun,?_,q1,(GLe.drew g w).trans q2,fun b hb=>.inl (by rw [← q3];exact hb),by simp,kk⟩
  simpa using q4
 ·rename_i es' id2 stamp off len
  split at hh
  ·rename_i es2 xs hg
   obtain ⟨⟨k1,k2,k3,k4⟩,hh1⟩:=chk_some hh
   clear hh
   subst k1
   cases hx with | sref _ _ _ _ _ l aa cap hk hes hs hlc ha hpl =>
   obtain ⟨l',hk',hrow⟩:=hI.obj' hk hg
   rw [hk] at hk';cases hk'
   have hrow:RowOk g w l es2 xs:=hrow
   have e2:es2=es':=by rw [← hrow.hes,hes]
   subst e2
   have hst:stamp=l.size:=by rw [hrow.hsize];exact k2.symm
   obtain ⟨q1,q2,q3⟩:=hpl hst
   have hxl:∀ x ∈ xs,x.cells.length=es2:=fun x hx=>(hrow.elems x hx).1
   split at hh1
   ·-- nothing is appended
    rename_i hy0
    simp only [Option.some.injEq,Prod.mk.injEq] at hh1
    obtain ⟨rfl,rfl⟩:=hh1
    refine ⟨g,w,.slice aa len cap,?_,.sref _ _ _ _ _ l aa cap hk hes hs hlc ha hpl,hI,GLe.refl _ _,fun b hb=>.inl hb,Nat.le_refl _,fun _ _ h=>⟨h,rfl⟩⟩
    have hne:news=#[]:=by
     rw [hy0,Nat.zero_mul] at hnl
     exact Array.size_eq_zero_iff.1 hnl
    rw [hy0] at n2w n3w
    subst hne
    obtain ⟨d2,hd2,hp2⟩:=desc_of h2
    cases aa<;>cases d2<;>simp [isSeq] at hp2 <;>
     simp [Builtin.append_,run_underlying ht,run_underlying hd2,sizeOf,typeInfo,hi,n2w,hlc,n3w,storeCells]
   ·rename_i hy0
    split at hh1
    ·-- inside the row
     rename_i hin
     simp only [Option.some.injEq,Prod.mk.injEq] at hh1
     obtain ⟨rfl,rfl⟩:=hh1
     obtain ⟨b,hbk,rfl⟩:=q3 (by omega)
     have hfit:(off + len) * es2 + (ys.flatMap FV.cells).length ≤ xs.length * es2:=by
      rw [flat_length hle,← Nat.add_mul];exact Nat.mul_le_mul_right _ (by omega)
     obtain ⟨w',r1,r2,r3,r4⟩:=write_row (P:=P) (xs':=xs.take (off + len) ++ ys ++ xs.drop (off + len + ys.length)) hI hg hk hbk (o:=(off + len) * es2) n1 (ok_flat hok) hfit (flat_splice hxl hle _) (by
      intro z hz
      simp only [List.mem_append] at hz
      rcases hz with (hz | hz) | hz
      ·exact hrow.elems z (List.mem_of_mem_take hz)
      ·exact hoke z hz
      ·exact hrow.elems z (List.mem_of_mem_drop hz)) (by simp;omega)
     have hrun:=ap_room (ty:=ty) ht h2 hi b (off * l.es) len cap ys.length vy news n2w n3w (w2:=w') (by
      rw [hrow.hes,hsz,← Nat.add_mul];exact r1) (by omega)
     exact ⟨g,w',_,hrun,.sref _ _ _ _ _ l _ cap hk hes hs (by omega) ha fun _=>⟨q1,q2,fun _=>⟨b,hbk,rfl⟩⟩,r2,r3,fun b hb=>.inl hb,by omega,fun i _ h=>⟨h,by rw [hget_hset hg,if_neg (fun e=>by subst e;rw [hk] at h;cases h)]⟩⟩
    ·rename_i hout
     obtain ⟨k5,hh2⟩:=chk_some hh1
     clear hh1
     subst k5
     simp only [Option.some.injEq,Prod.mk.injEq] at hh2
     obtain ⟨rfl,rfl⟩:=hh2
     have hoke2:∀ z ∈ xs.take len ++ ys,z.cells.length=es2∧z.ok=true:=by
      intro z hz
      rcases List.mem_append.1 hz with hz | hz
      ·exact hrow.elems z (List.mem_of_mem_take hz)
      ·exact hoke z hz
     have hnew:(xs.take len ++ ys).length=len + ys.length:=by simp;omega
     by_cases hroom:len + ys.length ≤ cap
     ·-- in place
      obtain ⟨b,hbk,rfl⟩:=q3 (by omega)
      obtain ⟨arr,tt,r1,r2,r3,cs,r4,r5⟩:=hrow.hsome b hbk
      have hblt:b < w.heap.size:=(hI.own id2 l b hk hbk).2.2
      have hcapl:len + ys.length ≤ l.cap:=by omega
      have hfit:len * es2 + news.toList.length ≤ arr.size:=by
       rw [r2];simp [hnl];rw [← Nat.add_mul];exact Nat.mul_le_mul_right _ hcapl
      have hst2:=run_storeCells_at (P:=P) b (len * es2) tt news.toList 0 arr w r1 (by simpa using hfit) (RL_one n1 (ok_flat hok))
      simp only [Nat.add_zero] at hst2
      have hrun:=ap_room (ty:=ty) ht h2 hi b (0 * l.es) len cap ys.length vy news n2w n3w (w2:=_) (by
       rw [hsz,Nat.zero_mul,Nat.zero_add];exact hst2) hroom
      have p:=Put.row (w:=w) hk hbk hblt (arr.toList.take (len * es2) ++ news.toList ++ arr.toList.drop (len * es2 + news.toList.length)).toArray ⟨some b,len + ys.length,l.es,l.cap,false,none⟩ rfl (by simp;omega) rfl hrow.hmp (fun e=>by simp at e;omega)
      have hle2:=p.gle hI (fun _ _=>by rw [hg];rfl)
      have hcsl:cs.length=xs.length * es2:=by rw [← r4.length,flat_length hxl]
      refine ⟨_,_,_,hrun,?_,hI.put p (hget_hset hg) ?_ (fun _ _=>by rw [hg];rfl),hle2,fun b hb=>.inl hb,by simp,fun i hi h=>by
       have hne:¬ i=id2:=fun e=>by subst e;rw [hk] at h;cases h
       exact ⟨by simp [upd,hne,h],by rw [hget_hset hg,if_neg hne]⟩⟩
      ·refine .sref _ _ _ _ _ ⟨some b,len + ys.length,l.es,l.cap,false,none⟩ _ cap (by simp [upd]) hes (Nat.le_refl _) hroom (fun _=>rfl) fun _=>⟨by omega,by omega,fun _=>⟨b,rfl,by simp⟩⟩
      ·refine ⟨rfl,by simp;omega,hrow.hes,trivial,hoke2,fun e=>by simp at e,fun b2 hb2=>?_⟩
       simp at hb2;subst hb2
       refine ⟨_,tt,setRow_heap w b arr _ tt (0,0) r1,?_,by rw [hnew];exact hcapl,cs.take (len * es2) ++ news.toList,?_,?_⟩
       ·simp at hfit ⊢; rw [← r2];omega
       ·rw [List.flatMap_append,← flat_take hxl]
        exact ((r4.take _).append n1).mono hle2
       ·intro j v hj
        have hlt:j < (cs.take (len * es2) ++ news.toList).length:=(List.getElem?_eq_some_iff.1 hj).1
        have hmul:len * es2 ≤ cs.length:=by rw [hcsl];exact Nat.mul_le_mul_right _ (by omega)
        simp only [List.length_append,List.length_take] at hlt
        rw [List.getElem?_toArray,splice_get _ _ _ _ (by simpa using hfit)]
        rw [List.getElem?_append] at hj
        simp only [List.length_take] at hj
        have hmin:min (len * es2) cs.length=len * es2:=by omega
        rw [hmin] at hj hlt
        split at hj
        ·rename_i hj1
         rw [if_pos hj1]
         rw [List.getElem?_take,if_pos hj1] at hj
         simpa using r5 j v hj
        ·rename_i hj1
         rw [if_neg hj1,if_pos (by omega)];exact hj
     ·-- a new block
      have hxs':elems h (.sref es2 id2 stamp 0 len)=some (cut xs 0 (0 + len)):=by
       simp only [elems,hg,chk]
       rw [if_pos ⟨k2,k3⟩]
      have hcl:(cut xs 0 (0 + len)).length=len:=by rw [cut_length _ _ _ (by omega)];omega
      have hcutx:cut xs 0 (0 + len)=xs.take len:=by simp [cut]
      obtain ⟨olds,o1,o2,o3⟩:=elems_sound (P:=P) hI (.sref _ _ _ _ _ l aa cap hk hes hs hlc ha hpl) hxs' hp (fun z hz=>hxl z (by rw [hcutx] at hz;exact List.mem_of_mem_take hz))
      rw [hcutx] at o1 o2 o3
      have htl:(xs.take len).length=len:=by rw [← hcutx];exact hcl
      have hol:olds.size=len * es2:=by
       have:=o1.length
       rw [flat_length (fun z hz=>hxl z (List.mem_of_mem_take hz)),htl] at this
       simpa using this.symm
      have o3d:=o3 w.drew rfl
      rw [htl,← hsz] at o3d
      have hrun:=ap_grow (ty:=ty) ht h2 hi hz (by omega) aa len cap ys.length vy olds news n2w n3d o3d (by omega) (by rw [hby];simpa using k4)
      have hge:=grownCap_ge w (len + ys.length) cap e
      have p:=Put.move hI.drew hk hrow.hmp (.cells (olds ++ news ++ Builtin.zeroCells z.cells (grownCap w (len + ys.length) cap e - (len + ys.length))) e) ⟨some w.heap.size,len + ys.length,l.es,grownCap w (len + ys.length) cap e,false,none⟩ rfl (by simp;omega) rfl
      have hle2:=p.gle hI.drew (fun _ _=>by rw [hg];rfl)
      refine ⟨_,_,_,hrun,?_,hI.drew.put p (hget_hset hg) ?_ (fun _ _=>by rw [hg];rfl),(GLe.drew g w).trans hle2,fun b hb=>.inl hb,by simp,fun i hi h=>by
       have hne:¬ i=id2:=fun e=>by subst e;rw [hk] at h;cases h
       exact ⟨by simp [upd,hne,h],by rw [hget_hset hg,if_neg hne]⟩⟩
      ·exact .sref _ _ _ _ _ ⟨some w.heap.size,len + ys.length,l.es,grownCap w (len + ys.length) cap e,false,none⟩ _ _ (by simp [upd]) hes (Nat.le_refl _) hge (fun _=>rfl) fun _=>⟨by simpa using hge,by simp,fun _=>⟨_,rfl,by simp⟩⟩
      ·refine ⟨rfl,by simp;omega,hrow.hes,trivial,hoke2,fun e=>by simp at e,fun b2 hb2=>?_⟩
       simp at hb2;subst hb2
       refine ⟨_,e,alloc_heap w.drew _,?_,by rw [hnew];exact hge,olds.toList ++ news.toList,?_,?_⟩
       ·simp [zeroCells_size,hol,hnl,hzl];rw [← Nat.add_mul,← Nat.add_mul];congr 1;omega
       ·rw [List.flatMap_append]
        exact (o1.append n1).mono ((GLe.drew g w).trans hle2)
       ·intro j v hj
        have hj':(olds ++ news).toList[j]? = some v:=by simpa using hj
        rw [← Array.getElem?_toList,Array.toList_append,List.getElem?_append_left (List.getElem?_eq_some_iff.1 hj').1]
        exact hj'
  ·simp at hh
 ·simp at hh
end
end Go.FI
