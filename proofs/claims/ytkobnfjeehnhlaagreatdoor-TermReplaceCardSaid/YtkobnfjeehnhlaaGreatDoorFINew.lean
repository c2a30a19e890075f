/- The operations that make an object. -/
import Derived.Test.YtkobnfjeehnhlaaGreatDoorFIInv
set_option linter.all false
namespace Go.FI
open Go.RowKit
variable [Sys]
def Does (P:Program) (B:Nat) (w0:World) (g:Gh) (h:Heap) (w:World) (a:Act) (o:Oper) (v:FV) (h':Heap) (N:Nat→Prop):Prop :=
 ∃ g' w' r x,(execOp a.eval o).run P w=.ok r w'∧(r=.value x ∨ (r=.skip∧x=undef))∧R g' w' v x∧Inv B w0 g' h' w'∧GLe g g' w w'∧(∀ b,g'.Z b→g.Z b ∨ w.heap.size ≤ b)∧w.heap.size ≤ w'.heap.size∧∀ i,¬ N i→g.κ i=none→g'.κ i=none∧hget h' i=hget h i
def zeroV (P:Program) (t:TypeId) (z:FV) (es:Nat):Bool :=
 sizeIs P t es && decide (0 < es) && z.ok && z.cells.length == es && (match P.info? t with
  |some i=>match i.zero with
   |some v=>okV v z
   |none=>false
  |none=>false)
def zeroV0 (P:Program) (t:TypeId) (z:FV) (es:Nat):Bool :=
 sizeIs P t es && z.ok && z.cells.length == es && (match P.info? t with
  |some i=>match i.zero with
   |some v=>okV v z
   |none=>false
  |none=>false)
def okElems:List (Nat × Operand)→List (Nat × X)→Bool
 |[],[]=>true
 |(i,x)::ps,(j,y)::qs=>i == j && okX x y && okElems ps qs
 |_,_=>false
def elemOk (P:Program) (d:TypeDesc) (f:TypeId→Bool):Bool :=
 match d with
 |.slice e=>f e
 |_=>false
def okNew (P:Program) (op:Op):O→Bool
 |.bx es x=>match op with
  |.box t x'=>okX x' x && sizeIs P t es && decide (0 < es)
  |_=>false
 |.al es z=>match op with
  |.alloc t=>zeroV0 P t z es
  |_=>false
 |.bs es n z ps=>match op with
  |.buildSlice t n' qs=>n' == n && okElems qs.toList ps && decide (n * es ≤ 16777216) && isDesc P t (fun d=>elemOk P d fun e=>zeroV P e z es)
  |_=>false
 |.ms es z l c=>match op with
  |.makeSlice t l' c'=>okX l' l && okX c' c && isDesc P t (fun d=>elemOk P d fun e=>zeroV P e z es && (match P.info? e with | some i=>decide (i.bytes ≤ 131072) | none=>false))
  |_=>false
 |.nl es=>match op with
  |.assign (.const (.slice none 0 0)) | .move (.const (.slice none 0 0))=>decide (0 < es)
  |_=>false
 |.mm=>match op with
  |.makeMap _ none=>true
  |_=>false
 |.rs x=>match op with
  |.range t x'=>okX x' x && isDesc P t isStr
  |_=>false
 |_=>false
section
variable {g g':Gh} {w w':World} {P:Program} {B:Nat} {w0:World} {h h':Heap} {a:Act} {m:Tm} {dst:Option Tmp} {op:Op} {ty:TypeId} {pos:String} {aft:Array Edge} {gd:Option (Nat × Bool)} {v:FV}
theorem new_var (hI:Inv B w0 g h w) {id es:Nat} {t:TypeId} (hn:g.κ id=none) {x:FV} (hq:∀ i,hget h' i=if i=id then some (.row es [x]) else hget h i) {vx:Value} (hx:R g w x vx) (hok:x.ok=true) (hc:x.cells.length=es) :
  ∃ g',Inv B w0 g' h' (w.alloc (.cells vx.cells t))∧GLe g g' w (w.alloc (.cells vx.cells t))∧g'.Z=g.Z∧R g' (w.alloc (.cells vx.cells t)) (.ptr id 1 0 0) (.pointer (some ⟨w.heap.size,0,none⟩))∧∀ i,¬ i=id→g.κ i=none→g'.κ i=none∧hget h' i=hget h i:=by
 have hcells:=hx.cells hok
 have hlen:vx.cells.size=es:=by have:=hcells.length;simp at this;omega
 have p:=Put.alloc hI hn (.cells vx.cells t) ⟨some w.heap.size,1,es,1,false,none⟩ rfl
 have hg:=p.gle hI (fun l hl=>by rw [hn] at hl;cases hl)
 refine ⟨_,hI.put p hq ?_ (fun l hl=>by rw [hn] at hl;cases hl),hg,rfl,?_,fun i hi hk=>⟨by simp [upd,hi,hk],by rw [hq,if_neg hi]⟩⟩
 ·refine ⟨rfl,rfl,rfl,trivial,?_,fun e=>by simp at e,fun b hb=>?_⟩
  ·intro y hy;simp at hy;subst hy;exact ⟨hc,hok⟩
  ·simp at hb;subst hb
   refine ⟨vx.cells,t,alloc_heap w _,by simp [hlen],Nat.le_refl _,vx.cells.toList,?_,fun j u hj=>by simpa using hj⟩
   simpa using hcells.mono hg
 ·exact .ptr id 1 0 0 ⟨some w.heap.size,1,es,1,false,none⟩ _ (by simp [upd]) (Nat.le_refl _) fun _=>⟨w.heap.size,rfl,by simp⟩
theorem d_bx (hI:Inv B w0 g h w) (hm:RT g w m a) {id es:Nat} {x:X} (hn:g.κ id=none) (hok:okNew P op (.bx es x)=true) {o:Obj} (hq:∀ i,hget h' i=if i=id then some o else hget h i) (hh:opn m id (.bx es x)=some (o,v)) :
  Does P B w0 g h w a ⟨dst,op,ty,pos,aft,gd⟩ v h' (· = id):=by
 cases op<;>simp only [okNew,Bool.false_eq_true] at hok
 rename_i t x'
 simp only [Bool.and_eq_true,decide_eq_true_eq] at hok
 obtain ⟨⟨h1,h2⟩,h3⟩:=hok
 simp only [opn] at hh
 obtain ⟨⟨h4,h5⟩,h6⟩:=chk_some hh
 simp only [Option.some.injEq,Prod.mk.injEq] at h6
 obtain ⟨rfl,rfl⟩:=h6
 obtain ⟨g',k1,k2,k3,k4,kk⟩:=new_var (t:=t) hI hn hq (R_okX hm h1) h4 h5
 refine ⟨g',_,_,_,exec_of_value (Instr.box t (a.eval x')) rfl (z:=.pointer (some ⟨w.heap.size,0,none⟩)) (w':=w.alloc (.cells (a.eval x').cells t)) rfl,.inl rfl,k4,k1,k2,fun b hb=>.inl (by rw [← k3];exact hb),by simp,kk⟩
theorem zeroV_of {t:TypeId} {z:FV} {es:Nat} (hz:zeroV P t z es=true):sizeIs P t es=true∧0 < es∧z.ok=true∧z.cells.length=es∧∃ i v,P.info? t=some i∧i.zero=some v∧i.size=es∧okV v z=true:=by
 unfold zeroV at hz
 simp only [Bool.and_eq_true,decide_eq_true_eq,beq_iff_eq] at hz
 obtain ⟨⟨⟨⟨h1,h2⟩,h3⟩,h4⟩,h5⟩:=hz
 refine ⟨h1,h2,h3,h4,?_⟩
 split at h5
 ·split at h5
  ·rename_i i hi _ v hv
   refine ⟨i,v,hi,hv,?_,h5⟩
   simp [sizeIs,hi] at h1;exact h1
  ·simp at h5
 ·simp at h5
theorem zeroV0_of {t:TypeId} {z:FV} {es:Nat} (hz:zeroV0 P t z es=true):sizeIs P t es=true∧z.ok=true∧z.cells.length=es∧∃ i v,P.info? t=some i∧i.zero=some v∧i.size=es∧okV v z=true:=by
 unfold zeroV0 at hz
 simp only [Bool.and_eq_true,decide_eq_true_eq,beq_iff_eq] at hz
 obtain ⟨⟨⟨h1,h3⟩,h4⟩,h5⟩:=hz
 refine ⟨h1,h3,h4,?_⟩
 split at h5
 ·split at h5
  ·rename_i i hi _ v hv
   refine ⟨i,v,hi,hv,?_,h5⟩
   simp [sizeIs,hi] at h1;exact h1
  ·simp at h5
 ·simp at h5
theorem d_al (hI:Inv B w0 g h w) {id es:Nat} {z:FV} (hn:g.κ id=none) (hok:okNew P op (.al es z)=true) {o:Obj} (hq:∀ i,hget h' i=if i=id then some o else hget h i) (hh:opn m id (.al es z)=some (o,v)) :
  Does P B w0 g h w a ⟨dst,op,ty,pos,aft,gd⟩ v h' (· = id):=by
 cases op<;>simp only [okNew,Bool.false_eq_true] at hok
 rename_i t
 obtain ⟨h1,h3,h4,i,zv,h5,h6,h7,h8⟩:=zeroV0_of hok
 simp only [opn,Option.some.injEq,Prod.mk.injEq] at hh
 obtain ⟨rfl,rfl⟩:=hh
 obtain ⟨g',k1,k2,k3,k4,kk⟩:=new_var (t:=t) hI hn hq (R_okV (g:=g) (w:=w) h8) h3 h4
 refine ⟨g',_,_,_,exec_of_value (Instr.alloc t true (.tuple #[])) rfl (z:=.pointer (some ⟨w.heap.size,0,none⟩)) (w':=w.alloc (.cells zv.cells t)) ?_,.inl rfl,k4,k1,k2,fun b hb=>.inl (by rw [← k3];exact hb),by simp,kk⟩
 simp only [Instr.alloc,Sem.run_bind,zeroValue,typeInfo,run_program,Result.andThen_ok,h5,h6,Sem.run_pure]
 rfl
theorem new_row (hI:Inv B w0 g h w) {id es:Nat} {t:TypeId} (hn:g.κ id=none) {xs:List FV} (hq:∀ i,hget h' i=if i=id then some (.row es xs) else hget h i) {cells:Array Value} (cap:Nat) (hcap:xs.length ≤ cap) (hsz:cells.size=cap * es) {cs:List Value}
  (hr:RL g w (xs.flatMap FV.cells) cs) (hcs:∀ (j:Nat) v,cs[j]? = some v→cells[j]? = some v) (hx:∀ x ∈ xs,x.cells.length=es∧x.ok=true) (hp:0 < es) :
  ∃ g',Inv B w0 g' h' (w.alloc (.cells cells t))∧GLe g g' w (w.alloc (.cells cells t))∧g'.Z=g.Z∧R g' (w.alloc (.cells cells t)) (.sref es id xs.length 0 xs.length) (.slice (some ⟨w.heap.size,0,none⟩) xs.length cap)∧∀ i,¬ i=id→g.κ i=none→g'.κ i=none∧hget h' i=hget h i:=by
 have p:=Put.alloc hI hn (.cells cells t) ⟨some w.heap.size,xs.length,es,cap,false,none⟩ rfl
 have hg:=p.gle hI (fun l hl=>by rw [hn] at hl;cases hl)
 refine ⟨_,hI.put p hq ?_ (fun l hl=>by rw [hn] at hl;cases hl),hg,rfl,?_,fun i hi hk=>⟨by simp [upd,hi,hk],by rw [hq,if_neg hi]⟩⟩
 ·refine ⟨rfl,rfl,rfl,trivial,hx,fun e=>by simp at e,fun b hb=>?_⟩
  simp at hb;subst hb
  exact ⟨cells,t,alloc_heap w _,hsz,hcap,cs,hr.mono hg,hcs⟩
 ·exact .sref es id _ 0 _ ⟨some w.heap.size,xs.length,es,cap,false,none⟩ _ cap (by simp [upd]) rfl (Nat.le_refl _) hcap (fun _=>rfl) fun _=>⟨by simpa using hcap,by simp,fun _=>⟨w.heap.size,rfl,by simp⟩⟩
theorem replicate_flat (n:Nat) (z:FV):(List.replicate n z).flatMap FV.cells=(List.replicate n z.cells).flatten:=by
 induction n with
 |zero=>rfl
 |succ n ih=>simp [List.replicate_succ,ih]
theorem zero_cells {zv:Value} {z:FV} (hz:RL g w z.cells zv.cells.toList) (n:Nat):RL g w ((List.replicate n z).flatMap FV.cells) (List.replicate n zv.cells.toList).flatten:=by
 rw [replicate_flat]
 induction n with
 |zero=>exact .nil
 |succ n ih=>simp only [List.replicate_succ,List.flatten_cons];exact hz.append ih
theorem rep_get {α:Type} (z:List α) (hz:0 < z.length):∀ (n j:Nat),j < n * z.length→(List.replicate n z).flatten[j]? = z[j % z.length]?
 |0,j,hj=>by simp at hj
 |n + 1,j,hj=>by
  rw [List.replicate_succ,List.flatten_cons,List.getElem?_append]
  split
  ·rename_i h;rw [Nat.mod_eq_of_lt h]
  ·rename_i h
   have h1:z.length ≤ j:=by omega
   rw [rep_get z hz n (j - z.length) (by rw [Nat.add_mul] at hj;omega)]
   congr 1
   exact (Nat.mod_eq_sub_mod h1).symm
theorem range_mod (z:Array Value) (hz:0 < z.size) (n:Nat):((Array.range (n * z.size)).map (fun i=>z[i % z.size]!)).toList=(List.replicate n z.toList).flatten:=by
 apply List.ext_getElem?
 intro j
 by_cases hj:j < n * z.size
 ·rw [rep_get z.toList (by simpa using hz) n j (by simpa using hj)]
  have hm:j % z.size < z.size:=Nat.mod_lt _ hz
  simp [hj,hm]
 ·have h1:((Array.range (n * z.size)).map (fun i=>z[i % z.size]!)).toList.length ≤ j:=by simp;omega
  have h2:(List.replicate n z.toList).flatten.length ≤ j:=by simp;omega
  rw [List.getElem?_eq_none h1,List.getElem?_eq_none h2]
theorem fillElems_sound (hm:RT g w m a) {es:Nat} (hp:0 < es):∀ (qs:List (Nat × Operand)) (ps:List (Nat × X)) (xs:List FV) (arr:Array Value) (out:List FV),okElems qs ps=true →
  (∀ x ∈ xs,x.cells.length=es∧x.ok=true)→RL g w (xs.flatMap FV.cells) arr.toList→fillElems m es xs ps=some out →
   (∃ arr',Instr.fill (fun i=>some (i * es,es)) arr (qs.map fun p=>(p.1,a.eval p.2))=some arr'∧RL g w (out.flatMap FV.cells) arr'.toList∧arr'.size=arr.size)∧(∀ x ∈ out,x.cells.length=es∧x.ok=true)∧out.length=xs.length
 |[],[],xs,arr,out,_,hx,hr,h=>by
  simp only [fillElems,Option.some.injEq] at h;subst h
  exact ⟨⟨arr,rfl,hr,rfl⟩,hx,rfl⟩
 |[],_::_,_,_,_,hok,_,_,_=>by simp [okElems] at hok
 |_::_,[],_,_,_,hok,_,_,_=>by simp [okElems] at hok
 |(i,x)::qs,(j,y)::ps,xs,arr,out,hok,hx,hr,h=>by
  simp only [okElems,Bool.and_eq_true,beq_iff_eq] at hok
  obtain ⟨⟨rfl,h2⟩,h3⟩:=hok
  simp only [fillElems] at h
  obtain ⟨⟨h4,h5,h6⟩,h7⟩:=chk_some h
  have hc:=(R_okX hm h2).cells h4
  have hl:(a.eval x).cells.size=es:=by have:=hc.length;simp at this;omega
  have hlen:arr.size=xs.length * es:=by have:=hr.length;rw [flat_length (fun x hx'=>(hx x hx').1)] at this;simpa using this.symm
  have hfit:i * es + es ≤ xs.length * es:=by
   have:(i + 1) * es ≤ xs.length * es:=Nat.mul_le_mul_right _ h5
   rw [Nat.add_mul] at this;omega
  have hs:=hr.splice hc (i * es)
  have hfold:=fold_splice (i * es) (a.eval x).cells.toList 0 arr (by simp;omega)
  simp only [Nat.add_zero] at hfold
  have e0:(a.eval x).cells.zipIdx.foldl (fun (cs:Array Value) (p:Value × Nat)=>cs.setIfInBounds (i * es + p.2) p.1) arr=((a.eval x).cells.toList.zipIdx).foldl (fun (cs:Array Value) (p:Value × Nat)=>cs.setIfInBounds (i * es + p.2) p.1) arr:=by
   rw [← Array.foldl_toList,Array.toList_zipIdx]
  have hset:splice (xs.flatMap FV.cells) (i * es) (ev m y).cells=(xs.set i (ev m y)).flatMap FV.cells:=flat_set (fun x hx'=>(hx x hx').1) h5 h6
  have hx2:∀ x ∈ xs.set i (ev m y),x.cells.length=es∧x.ok=true:=fun z hz=>by
   rcases List.mem_or_eq_of_mem_set hz with hz | rfl
   ·exact hx z hz
   ·exact ⟨h6,h4⟩
  obtain ⟨⟨arr',e1,e2,e3⟩,e4,e5⟩:=fillElems_sound hm hp qs ps (xs.set i (ev m y)) ((a.eval x).cells.zipIdx.foldl (fun (cs:Array Value) (p:Value × Nat)=>cs.setIfInBounds (i * es + p.2) p.1) arr) out h3 hx2 (by
   rw [e0,hfold,← hset];exact hs) h7
  refine ⟨⟨arr',?_,e2,?_⟩,e4,by simpa using e5⟩
  ·simp only [List.map_cons,Instr.fill]
   rw [if_neg]
   ·exact e1
   ·simp [hl];omega
  ·rw [e3,e0]
   have:=congrArg List.length hfold
   simp at this
   omega
theorem elemOk_of {t:TypeId} {f:TypeId→Bool} (hh:isDesc P t (fun d=>elemOk P d f)=true):∃ e,P.underlying t=some (.slice e)∧f e=true:=by
 obtain ⟨d,hd,hp⟩:=desc_of hh
 cases d<;>simp [elemOk] at hp
 exact ⟨_,hd,hp⟩
theorem d_bs (hI:Inv B w0 g h w) (hm:RT g w m a) {id es n:Nat} {z:FV} {ps:List (Nat × X)} (hn:g.κ id=none) (hok:okNew P op (.bs es n z ps)=true) {o:Obj} (hq:∀ i,hget h' i=if i=id then some o else hget h i) (hh:opn m id (.bs es n z ps)=some (o,v)) :
  Does P B w0 g h w a ⟨dst,op,ty,pos,aft,gd⟩ v h' (· = id):=by
 cases op<;>simp only [okNew,Bool.false_eq_true] at hok
 rename_i t n' qs
 simp only [Bool.and_eq_true,decide_eq_true_eq,beq_iff_eq] at hok
 obtain ⟨⟨⟨rfl,h1⟩,h2⟩,h3⟩:=hok
 obtain ⟨e,hd,hz⟩:=elemOk_of h3
 obtain ⟨hs1,hs2,hs3,hs4,i,zv,hi,hzv,hsz,hok⟩:=zeroV_of hz
 simp only [opn] at hh
 obtain ⟨xs,hxs,h4⟩:=bnd_some hh
 simp only [Option.some.injEq,Prod.mk.injEq] at h4
 obtain ⟨rfl,rfl⟩:=h4
 have hzc:=(R_okV (g:=g) (w:=w) hok).cells hs3
 have hzl:zv.cells.size=es:=by have:=hzc.length;simp at this;omega
 have hx0:∀ x ∈ List.replicate n' z,x.cells.length=es∧x.ok=true:=fun x hx=>by
  rw [(List.mem_replicate.1 hx).2];exact ⟨hs4,hs3⟩
 have harr:((Array.range (n' * es)).map (fun i=>zv.cells[i % zv.cells.size]!)).toList=(List.replicate n' zv.cells.toList).flatten:=by
  have:=range_mod zv.cells (by omega) n'
  rw [hzl] at this ⊢; exact this
 obtain ⟨⟨arr',e1,e2,e3⟩,e4,e5⟩:=fillElems_sound (g:=g) (w:=w) hm hs2 qs.toList ps (List.replicate n' z) ((Array.range (n' * es)).map (fun i=>zv.cells[i % zv.cells.size]!)) xs h1 hx0 (by
  rw [harr];exact zero_cells hzc n') hxs
 simp only [List.length_replicate] at e5
 obtain ⟨g',k1,k2,k3,k4,kk⟩:=new_row (t:=e) (cells:=arr') hI hn hq n' (by omega) (by rw [e3];simp) e2 (fun j v hj=>by simpa using hj) e4 hs2
 rw [e5] at k4
 have hmap:(qs.map fun (i,x)=>(i,a.eval x)).toList=qs.toList.map fun p=>(p.1,a.eval p.2):=by simp
 refine ⟨g',_,_,_,exec_of_value (Instr.buildSlice t n' (qs.map fun (i,x)=>(i,a.eval x))) rfl (z:=.slice (some ⟨w.heap.size,0,none⟩) n' n') (w':=w.alloc (.cells arr' e)) ?_,.inl rfl,k4,k1,k2,fun b hb=>.inl (by rw [← k3];exact hb),by simp,kk⟩
 simp only [Instr.buildSlice,Sem.run_bind,underlying,run_program,Result.andThen_ok,hd,Sem.run_pure,run_sizeOf w hs1]
 rw [if_neg (by omega)]
 by_cases hz0:n' * es=0
 ·have hn0:n'=0:=by
   rcases Nat.mul_eq_zero.1 hz0 with h | h
   ·exact h
   ·omega
  subst hn0
  simp only [Nat.zero_mul,if_true,Sem.run_pure,Result.andThen_ok,hmap]
  simp only [Nat.zero_mul,Array.range_zero',Array.map_empty] at e1 ⊢
  rw [e1]
  rfl
 ·rw [if_neg hz0]
  simp only [Sem.run_bind,zeroValue,typeInfo,run_program,Result.andThen_ok,hi,hzv,Sem.run_pure,hmap,e1]
  rfl
theorem d_ms (hI:Inv B w0 g h w) (hm:RT g w m a) {id es:Nat} {z:FV} {l c:X} (hn:g.κ id=none) (hok:okNew P op (.ms es z l c)=true) {o:Obj} (hq:∀ i,hget h' i=if i=id then some o else hget h i) (hh:opn m id (.ms es z l c)=some (o,v)) :
  Does P B w0 g h w a ⟨dst,op,ty,pos,aft,gd⟩ v h' (· = id):=by
 cases op<;>simp only [okNew,Bool.false_eq_true] at hok
 rename_i t l' c'
 simp only [Bool.and_eq_true] at hok
 obtain ⟨⟨h1,h2⟩,h3⟩:=hok
 obtain ⟨e,hd,hz⟩:=elemOk_of h3
 simp only [Bool.and_eq_true] at hz
 obtain ⟨hz,hb⟩:=hz
 obtain ⟨hs1,hs2,hs3,hs4,i,zv,hi,hzv,hsz,hok⟩:=zeroV_of hz
 simp only [hi,decide_eq_true_eq] at hb
 simp only [opn] at hh
 split at hh
 ·rename_i k1 n k2 cc hl hc
  obtain ⟨⟨h4,h5,h6⟩,h7⟩:=chk_some hh
  simp only [Option.some.injEq,Prod.mk.injEq] at h7
  obtain ⟨rfl,rfl⟩:=h7
  have el:=R_int (hl ▸ R_okX hm h1:R g w (.int k1 n) (a.eval l'))
  have ec:=R_int (hc ▸ R_okX hm h2:R g w (.int k2 cc) (a.eval c'))
  have hzc:=(R_okV (g:=g) (w:=w) hok).cells hs3
  have hzl:zv.cells.size=es:=by have:=hzc.length;simp at this;omega
  have hx0:∀ x ∈ List.replicate n.toNat z,x.cells.length=es∧x.ok=true:=fun x hx=>by
   rw [(List.mem_replicate.1 hx).2];exact ⟨hs4,hs3⟩
  have harr:=range_mod zv.cells (by omega) cc.toNat
  obtain ⟨g',q1,q2,q3,q4,kk⟩:=new_row (t:=e) (xs:=List.replicate n.toNat z) (cells:=(Array.range (cc.toNat * i.size)).map (fun j=>zv.cells[j % zv.cells.size]!)) hI hn hq cc.toNat (by simp;omega) (by simp [hsz])
   (zero_cells hzc n.toNat) (fun j v hj=>by
    have hjl:j < (List.replicate n.toNat zv.cells.toList).flatten.length:=(List.getElem?_eq_some_iff.1 hj).1
    simp at hjl
    rw [rep_get _ (by simp;omega) _ _ (by simpa using hjl)] at hj
    have hlt:j < cc.toNat * zv.cells.size:=Nat.lt_of_lt_of_le hjl (Nat.mul_le_mul_right _ (by omega))
    have:=rep_get zv.cells.toList (by simp;omega) cc.toNat j (by simpa using hlt)
    rw [← harr,hj] at this
    have e3:i.size=zv.cells.size:=by omega
    rw [e3,← Array.getElem?_toList]
    exact this) hx0 hs2
  simp only [List.length_replicate] at q4
  refine ⟨g',_,_,_,exec_of_value (Instr.makeSlice t (a.eval l') (a.eval c')) rfl (z:=.slice (some ⟨w.heap.size,0,none⟩) n.toNat cc.toNat) (w':=w.alloc (.cells ((Array.range (cc.toNat * i.size)).map (fun j=>zv.cells[j % zv.cells.size]!)) e)) ?_,.inl rfl,q4,q1,q2,fun b hb=>.inl (by rw [← q3];exact hb),by simp,kk⟩
  rw [el,ec]
  have hbytes:(i.bytes:Int) * cc ≤ 281474976710656:=by
   have h1:(i.bytes:Int) ≤ 131072:=by omega
   have h2:(i.bytes:Int) * cc ≤ 131072 * 1073741824:=Int.mul_le_mul h1 h6 (by omega) (by omega)
   omega
  exact run_make w t e i zv hd hi hzv k1 k2 n cc h4 h5 hbytes (by omega)
 ·simp at hh
theorem d_nl (hI:Inv B w0 g h w) {id es:Nat} (hn:g.κ id=none) (hok:okNew P op (.nl es)=true) {o:Obj} (hq:∀ i,hget h' i=if i=id then some o else hget h i) (hh:opn m id (.nl es)=some (o,v)) :
  Does P B w0 g h w a ⟨dst,op,ty,pos,aft,gd⟩ v h' (· = id):=by
 simp only [opn,Option.some.injEq,Prod.mk.injEq] at hh
 obtain ⟨rfl,rfl⟩:=hh
 have hp:0 < es∧(execOp a.eval ⟨dst,op,ty,pos,aft,gd⟩).run P w=.ok (.value (.slice none 0 0)) w:=by
  cases op<;>simp only [okNew,Bool.false_eq_true] at hok
  all_goals
   split at hok
   ·rename_i he;cases he
    all_goals exact ⟨by simpa using hok,rfl⟩
   ·rename_i he;cases he
    all_goals exact ⟨by simpa using hok,rfl⟩
   ·simp at hok
 have p:=Put.phantom hI hn ⟨none,0,es,0,false,none⟩ rfl
 have hg:=p.gle hI (fun l hl=>by rw [hn] at hl;cases hl)
 refine ⟨_,w,_,_,hp.2,.inl rfl,?_,hI.put p hq ?_ (fun l hl=>by rw [hn] at hl;cases hl),hg,fun b hb=>.inl hb,Nat.le_refl _,fun i hi hk=>⟨by simp [upd,hi,hk],by rw [hq,if_neg hi]⟩⟩
 ·exact .sref es id 0 0 0 ⟨none,0,es,0,false,none⟩ none 0 (by simp [upd]) rfl (Nat.le_refl _) (Nat.le_refl _) (fun h=>by omega) fun _=>⟨by omega,by simp,fun h=>by omega⟩
 ·exact ⟨rfl,rfl,rfl,trivial,fun x hx=>by simp at hx,fun _=>⟨rfl,rfl⟩,fun b hb=>by simp at hb⟩
theorem d_mm (hI:Inv B w0 g h w) {id:Nat} (hn:g.κ id=none) (hok:okNew P op .mm=true) {o:Obj} (hq:∀ i,hget h' i=if i=id then some o else hget h i) (hh:opn m id .mm=some (o,v)) :
  Does P B w0 g h w a ⟨dst,op,ty,pos,aft,gd⟩ v h' (· = id):=by
 simp only [opn,Option.some.injEq,Prod.mk.injEq] at hh
 obtain ⟨rfl,rfl⟩:=hh
 have hp:(execOp a.eval ⟨dst,op,ty,pos,aft,gd⟩).run P w=.ok (.value (.map (some w.heap.size))) (w.alloc (.map #[] 0)):=by
  cases op<;>simp only [okNew,Bool.false_eq_true] at hok
  rename_i t r
  cases r<;>simp at hok
  rfl
 have p:=Put.alloc hI hn (.map #[] 0) ⟨some w.heap.size,0,0,0,true,none⟩ rfl
 have hg:=p.gle hI (fun l hl=>by rw [hn] at hl;cases hl)
 refine ⟨_,_,_,_,hp,.inl rfl,?_,hI.put p hq ?_ (fun l hl=>by rw [hn] at hl;cases hl),hg,fun b hb=>.inl hb,by simp,fun i hi hk=>⟨by simp [upd,hi,hk],by rw [hq,if_neg hi]⟩⟩
 ·exact .map id _ ⟨some w.heap.size,0,0,0,true,none⟩ (by simp [upd]) rfl rfl
 ·exact ⟨rfl,rfl,w.heap.size,#[],0,rfl,alloc_heap w _,.nil,by simp [Stamps]⟩
theorem d_rs (hI:Inv B w0 g h w) (hm:RT g w m a) {id:Nat} {x:X} (hn:g.κ id=none) (hok:okNew P op (.rs x)=true) {o:Obj} (hq:∀ i,hget h' i=if i=id then some o else hget h i) (hh:opn m id (.rs x)=some (o,v)) :
  Does P B w0 g h w a ⟨dst,op,ty,pos,aft,gd⟩ v h' (· = id):=by
 simp only [opn] at hh
 split at hh
 ·rename_i s hx
  simp only [Option.some.injEq,Prod.mk.injEq] at hh
  obtain ⟨rfl,rfl⟩:=hh
  cases op<;>simp only [okNew,Bool.false_eq_true] at hok
  rename_i t x'
  simp only [Bool.and_eq_true] at hok
  obtain ⟨d,hd,hp'⟩:=desc_of hok.2
  cases d<;>simp [isStr] at hp'
  have hr:=R_okX hm hok.1
  rw [hx] at hr
  generalize hev:a.eval x'=y at hr
  cases hr with
  |str bs =>
  have hp:(execOp a.eval ⟨dst,Op.range t x',ty,pos,aft,gd⟩).run P w=.ok (.value (.pointer (some ⟨w.heap.size,0,none⟩))) (w.alloc (.stringIter bs 0)):=by
   refine exec_of_value (Instr.range t (a.eval x')) rfl ?_
   rw [hev]
   simp only [Instr.range,Sem.run_bind,underlying,run_program,Result.andThen_ok,hd,Sem.run_pure]
   rfl
  have p:=Put.alloc hI hn (.stringIter bs 0) ⟨some w.heap.size,1,0,1,true,none⟩ rfl
  have hg:=p.gle hI (fun l hl=>by rw [hn] at hl;cases hl)
  refine ⟨_,_,_,_,hp,.inl rfl,?_,hI.put p hq ?_ (fun l hl=>by rw [hn] at hl;cases hl),hg,fun b hb=>.inl hb,by simp,fun i hi hk=>⟨by simp [upd,hi,hk],by rw [hq,if_neg hi]⟩⟩
  ·exact .ptr id 1 0 0 ⟨some w.heap.size,1,0,1,true,none⟩ _ (by simp [upd]) (Nat.le_refl _) fun _=>⟨w.heap.size,rfl,rfl⟩
  ·exact ⟨rfl,rfl,rfl,w.heap.size,rfl,by rw [alloc_heap w _]⟩
 ·simp at hh
end
end Go.FI
