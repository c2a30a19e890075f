/- A part of the proof: see the last text. -/
import Derived.Test.YtkobnfjeehnhlaaGreatDoorFIOpy
set_option linter.all false
namespace Go.FI
open Go.RowKit
variable [Sys]
section
variable {g:Gh} {w:World} {P:Program} {B:Nat} {w0:World} {hp:Heap} {a:Act} {m:Tm} {dst:Option Tmp} {op:Op} {ty:TypeId} {pos:String} {aft:Array Edge} {gd:Option (Nat × Bool)} {v:FV}
theorem s_fd (hm:RT g w m a) {ag:Option Nat} {off:Nat} {x:X} (hok:okOp P op (.fd ag off x)=true) (h:opv hp m (.fd ag off x)=some v):Yields P g w a ⟨dst,op,ty,pos,aft,gd⟩ v:=by
 cases op<;>simp only [okOp,Bool.false_eq_true] at hok
 rename_i t x' f
 simp only [Bool.and_eq_true] at hok
 obtain ⟨h1,h2⟩:=hok
 split at h2
 ·rename_i fs hd
  split at h2
  ·rename_i fd hf
   simp only [Bool.and_eq_true,beq_iff_eq] at h2
   obtain ⟨rfl,h3⟩:=h2
   simp only [opv] at h
   split at h
   ·rename_i cs hx
    obtain ⟨vs,e1,hr⟩:=R_agg (hx ▸ R_okX hm h1:R g w (.agg cs) (a.eval x'))
    have key:∀ z,(part fd.type vs.toArray fd.offset).run P w=.ok z w→R g w v z→Yields P g w a ⟨dst,.field t x' f,ty,pos,aft,gd⟩ v:=fun z hz hR=>by
     refine ⟨z,exec_of_value (Instr.field t (a.eval x') f) rfl (w':=w) ?_,hR⟩
     rw [e1]
     simp only [Instr.field,underlying,Sem.run_bind,run_program,Result.andThen_ok,hd,Sem.run_pure,hf,asAgg]
     exact hz
    cases ag with
    |none =>
     simp only [okAg,Bool.and_eq_true,Bool.not_eq_true'] at h3
     obtain ⟨z,hz,hR⟩:=hr.get _ _ h
     refine key z ?_ hR
     simp [part,run_isAgg _ w h3.2,h3.1,hz]
    |some n =>
     simp only [okAg,Bool.and_eq_true] at h3
     simp only [cellsAt] at h
     obtain ⟨hle,h4⟩:=chk_some h
     simp only [Option.some.injEq] at h4;subst h4
     have hu:(P.underlying fd.type).isSome=true:=by
      have:=h3.1;unfold isAggB at this;split at this<;>simp_all
     refine key (.agg (cut vs fd.offset (fd.offset + n)).toArray) ?_ (.agg _ _ (hr.cut _ _))
     simp [part,run_isAgg _ w hu,h3.1,run_sizeOf w h3.2,cut]
   ·simp at h
  ·simp at h2
 ·simp at h2
theorem run_mapM_list {α β:Type} (f:α→Sem β) (f':α→β):∀ l:List α,(∀ x ∈ l,(f x).run P w=.ok (f' x) w)→(l.mapM f).run P w=.ok (l.map f') w
 |[],_=>by simp
 |x::l,h=>by
  simp only [List.mapM_cons,Sem.run_bind,h x (by simp),Result.andThen_ok,run_mapM_list f f' l (fun y hy=>h y (by simp [hy])),Sem.run_pure,List.map_cons]
theorem run_mapM_array {α β:Type} (f:α→Sem β) (f':α→β) (l:Array α) (h:∀ x ∈ l.toList,(f x).run P w=.ok (f' x) w):(l.mapM f).run P w=.ok (l.toList.map f').toArray w:=by
 rw [Array.mapM_eq_mapM_toList]
 simp only [Sem.run_map,run_mapM_list f f' l.toList h,Result.andThen_ok]
theorem fold_splice (off:Nat):∀ (cs:List Value) (k:Nat) (arr:Array Value),off + k + cs.length ≤ arr.size →
  ((cs.zipIdx k).foldl (fun (acc:Array Value) (p:Value × Nat)=>acc.setIfInBounds (off + p.2) p.1) arr).toList=arr.toList.take (off + k) ++ cs ++ arr.toList.drop (off + k + cs.length)
 |[],k,arr,_=>by simp
 |c::cs,k,arr,h=>by
  simp only [List.length_cons] at h
  simp only [List.zipIdx_cons,List.foldl_cons]
  rw [fold_splice off cs (k + 1) _ (by simp;omega)]
  simp only [Array.toList_setIfInBounds,List.length_cons]
  have e:=list_seg_step arr.toList (off + k) c cs (by simp;omega)
  have e1:off + (k + 1)=off + k + 1:=by omega
  have e2:off + k + 1 + cs.length=off + k + (cs.length + 1):=by omega
  rw [e1]
  rw [← e]
theorem fill_sound (hm:RT g w m a) {d:TypeDesc} {place:Nat→Option (Nat × Nat)} (hp:∀ i off sz,okPart P d i off sz=true→place i=some (off,sz)) :
  ∀ (qs:List (Nat × Operand)) (ps:List (Nat × Nat × X)) (cs:List FV) (arr:Array Value) (out:List FV),okParts P d qs ps=true→RL g w cs arr.toList→fillCells m cs ps=some out →
   ∃ arr',Instr.fill place arr (qs.map fun p=>(p.1,a.eval p.2))=some arr'∧RL g w out arr'.toList
 |[],[],cs,arr,out,_,hr,h=>by
  simp only [fillCells,Option.some.injEq] at h;subst h
  exact ⟨arr,rfl,hr⟩
 |[],_::_,_,_,_,hok,_,_=>by simp [okParts] at hok
 |_::_,[],_,_,_,hok,_,_=>by simp [okParts] at hok
 |(i,x)::qs,(off,sz,y)::ps,cs,arr,out,hok,hr,h=>by
  simp only [okParts,Bool.and_eq_true] at hok
  obtain ⟨⟨h1,h2⟩,h3⟩:=hok
  simp only [fillCells] at h
  obtain ⟨⟨h4,h5,h6⟩,h7⟩:=chk_some h
  have hc:=(R_okX hm h1).cells h4
  have hl:(a.eval x).cells.size=sz:=by have:=hc.length;simp at this;omega
  have hlen:=hr.length
  have hs:=hr.splice hc off
  have hfold:=fold_splice off (a.eval x).cells.toList 0 arr (by simp at hlen ⊢; omega)
  simp only [Nat.add_zero] at hfold
  have e0:(a.eval x).cells.zipIdx.foldl (fun (cs:Array Value) (p:Value × Nat)=>cs.setIfInBounds (off + p.2) p.1) arr=((a.eval x).cells.toList.zipIdx).foldl (fun (cs:Array Value) (p:Value × Nat)=>cs.setIfInBounds (off + p.2) p.1) arr:=by
   rw [← Array.foldl_toList,Array.toList_zipIdx]
  obtain ⟨arr',e1,e2⟩:=fill_sound hm hp qs ps _ ((a.eval x).cells.zipIdx.foldl (fun (cs:Array Value) (p:Value × Nat)=>cs.setIfInBounds (off + p.2) p.1) arr) out h3 (by
   rw [e0,hfold];exact hs) h7
  refine ⟨arr',?_,e2⟩
  simp only [List.map_cons,Instr.fill,hp i off sz h2]
  rw [if_neg]
  ·exact e1
  ·simp at hlen;simp [hl];omega
theorem zeroIs_of {t:TypeId} {z:List FV} (h:zeroIs P t z=true):∃ i v,P.info? t=some i∧i.zero=some v∧okVs v.cells.toList z=true:=by
 unfold zeroIs at h
 split at h
 ·split at h
  ·exact ⟨_,_,by assumption,by assumption,h⟩
  ·simp at h
 ·simp at h
theorem s_bd (hm:RT g w m a) {z:List FV} {ps:List (Nat × Nat × X)} (hok:okOp P op (.bd z ps)=true) (h:opv hp m (.bd z ps)=some v):Yields P g w a ⟨dst,op,ty,pos,aft,gd⟩ v:=by
 cases op<;>simp only [okOp,Bool.false_eq_true] at hok
 rename_i t qs
 simp only [Bool.and_eq_true] at hok
 obtain ⟨h1,h2⟩:=hok
 obtain ⟨d,hd,hp'⟩:=desc_of h2
 simp only [Bool.and_eq_true] at hp'
 obtain ⟨hf,hparts⟩:=hp'
 obtain ⟨i,zv,hi,hz,hzc⟩:=zeroIs_of h1
 simp only [opv] at h
 obtain ⟨cs,hcs,h3⟩:=bnd_some h
 simp only [Option.some.injEq] at h3;subst h3
 have hzero:(zeroValue t).run P w=.ok zv w:=by simp [zeroValue,typeInfo,hi,hz]
 have hmap:(qs.map fun (i,x)=>(i,a.eval x)).toList=qs.toList.map fun p=>(p.1,a.eval p.2):=by simp
 cases d with
 |struct fs =>
  simp only [fieldsKnown,List.all_eq_true] at hf
  have hplaces:(fs.mapM fun f=>(do pure (f.offset,← sizeOf f.type):Sem (Nat × Nat))).run P w=.ok (fs.toList.map fun f=>(f.offset,((P.info? f.type).map (·.size)).getD 0)).toArray w:=by
   apply run_mapM_array
   intro f hfm
   have:=hf f hfm
   obtain ⟨i,hi⟩:=Option.isSome_iff_exists.1 this
   simp [sizeOf,typeInfo,hi]
  obtain ⟨arr',e1,e2⟩:=fill_sound (w:=w) (g:=g) (P:=P) hm (d:=.struct fs) (place:=fun i=>(fs.toList.map fun f=>(f.offset,((P.info? f.type).map (·.size)).getD 0)).toArray[i]?) (by
   intro i off sz hpt
   unfold okPart at hpt
   simp only at hpt
   split at hpt
   ·rename_i f hfi
    simp only [Bool.and_eq_true,beq_iff_eq] at hpt
    obtain ⟨rfl,h4⟩:=hpt
    unfold sizeIs at h4
    have:fs.toList[i]? = some f:=by simpa using hfi
    simp [hfi]
    cases hinf:P.info? f.type with
    |none=>simp [hinf] at h4
    |some inf=>simp [hinf] at h4 ⊢; exact h4
   ·simp at hpt) qs.toList ps z zv.cells cs hparts (RL_okVs hzc) hcs
  refine ⟨.agg arr',exec_of_value (Instr.build t (qs.map fun (i,x)=>(i,a.eval x))) rfl (w':=w) ?_,?_⟩
  ·simp only [Instr.build,Sem.run_bind,hzero,Result.andThen_ok,underlying,run_program,hd,Sem.run_pure,hplaces,hmap,e1]
  ·exact .agg _ arr'.toList e2
 |array n e =>
  simp only [fieldsKnown] at hf
  obtain ⟨i,hi⟩:=Option.isSome_iff_exists.1 hf
  obtain ⟨arr',e1,e2⟩:=fill_sound (w:=w) (g:=g) (P:=P) hm (d:=.array n e) (place:=fun j=>some (j * i.size,i.size)) (by
   intro j off sz hpt
   simp only [okPart,Bool.and_eq_true,beq_iff_eq] at hpt
   obtain ⟨rfl,h4⟩:=hpt
   simp [sizeIs,hi] at h4
   simp [h4]) qs.toList ps z zv.cells cs hparts (RL_okVs hzc) hcs
  refine ⟨.agg arr',exec_of_value (Instr.build t (qs.map fun (i,x)=>(i,a.eval x))) rfl (w':=w) ?_,?_⟩
  ·simp only [Instr.build,Sem.run_bind,hzero,Result.andThen_ok,underlying,run_program,hd,Sem.run_pure,sizeOf,typeInfo,hi,hmap,e1]
  ·exact .agg _ arr'.toList e2
 |_=>simp [fieldsKnown] at hf
end
end Go.FI
