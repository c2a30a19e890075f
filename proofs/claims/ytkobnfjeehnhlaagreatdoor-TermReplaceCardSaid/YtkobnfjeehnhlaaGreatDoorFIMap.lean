/- Maps whose keys are integers or strings. -/
import Derived.Test.YtkobnfjeehnhlaaGreatDoorFIApp
set_option linter.all false
namespace Go.FI
open Go.RowKit
variable [Sys]
section
variable {g g':Gh} {w w':World} {P:Program} {B:Nat} {w0:World} {h h':Heap} {a:Act} {m:Tm} {dst:Option Tmp} {op:Op} {ty:TypeId} {pos:String} {aft:Array Edge} {gd:Option (Nat × Bool)} {v:FV}
def keyD:Nat→TypeDesc→Bool
 |0,.int _=>true
 |1,.string=>true
 |_,_=>false
theorem bytes_beq (a b:ByteArray):(a == b)=(a.data.toList == b.data.toList):=by
 show (a.data == b.data)=_
 rw [Bool.eq_iff_iff];simp
theorem sameNow_sound {kt:Nat} {d:TypeDesc} (hd:keyD kt d=true) {k j:FV} {vk vj:Value} (hk:R g w k vk) (hj:R g w j vj) {e:Bool} (he:keyEq kt k j=some e):Instr.sameNow d vk vj=some e:=by
 unfold keyEq at he
 split at he
 ·obtain ⟨rfl,h1⟩:=chk_some he
  rw [R_int hk,R_int hj] at *
  cases d<;>simp [keyD] at hd
  simp [Instr.sameNow];simpa using h1
 ·obtain ⟨s,rfl,rfl⟩:=R_str hk
  obtain ⟨s',rfl,rfl⟩:=R_str hj
  cases d<;>simp [keyD] at hd
  simp only [Option.some.injEq] at he;subst he
  simp only [Instr.sameNow,bytes_beq]
 ·simp at he
theorem sameBits_of {kt:Nat} {k j:FV} {vk vj:Value} (hk:R g w k vk) (hj:R g w j vj) (he:keyEq kt k j=some true):Instr.sameBits 10000 vj vk=true:=by
 unfold keyEq at he
 split at he
 ·obtain ⟨rfl,h1⟩:=chk_some he
  rw [R_int hk,R_int hj] at *
  simp at h1
  simp [Instr.sameBits,h1]
 ·obtain ⟨s,rfl,rfl⟩:=R_str hk
  obtain ⟨s',rfl,rfl⟩:=R_str hj
  simp only [Option.some.injEq] at he
  simp only [Instr.sameBits,bytes_beq]
  rw [beq_iff_eq] at he ⊢
  exact he.symm
 ·simp at he
theorem find_sound {kt:Nat} {d:TypeDesc} (hd:keyD kt d=true) {k:FV} {vk:Value} (hk:R g w k vk):∀ (en:List (FV × FV)) (es:List MapEntry) (i:Nat) (r:Option FV),EnOk g w en es→find kt k en=some r →
  ∃ r',Instr.findNow d vk es i=some r'∧(match r,r' with | none,none=>True | some v,some (_,x)=>R g w v x | _,_=>False)
 |[],[],i,r,_,hf=>by simp [find] at hf;subst hf;exact ⟨none,rfl,trivial⟩
 |(j,v)::en,e::es,i,r,he,hf=>by
  cases he with
  |cons _ _ _ _ _ hj hv hs =>
  simp only [find] at hf
  obtain ⟨b,hb,hf⟩:=bnd_some hf
  have:=sameNow_sound hd hk hj hb
  cases b with
  |true =>
   simp at hf;subst hf
   exact ⟨some (i,e.val),by simp [Instr.findNow,this],hv⟩
  |false =>
   simp at hf
   obtain ⟨r',h1,h2⟩:=find_sound hd hk en es (i + 1) r hs hf
   exact ⟨r',by simp [Instr.findNow,this,h1],h2⟩
theorem update_sound {kt:Nat} {d:TypeDesc} (hd:keyD kt d=true) {k v:FV} {vk vv:Value} (hk:R g w k vk) (hv:R g w v vv):∀ (en:List (FV × FV)) (es:List MapEntry) (i:Nat) (en':List (FV × FV)),EnOk g w en es→update kt k v en=some en' →
  (Instr.findNow d vk es i=some none∧∀ e:MapEntry,e.key=vk→e.val=vv→EnOk g w en' (es ++ [e])) ∨
  (∃ p x,Instr.findNow d vk es i=some (some (i + p,x))∧(∃ e,es[p]? = some e∧Instr.sameBits 10000 e.key vk=true)∧EnOk g w en' (es.modify p fun e=>{ e with key:=vk,val:=vv }))
 |[],[],i,en',_,hf=>by
  simp [update] at hf;subst hf
  refine .inl ⟨rfl,fun e h1 h2=>?_⟩
  subst h1;subst h2
  exact .cons _ _ e [] [] hk hv .nil
 |(j,u)::en,e::es,i,en',he,hf=>by
  cases he with
  |cons _ _ _ _ _ hj hu hs =>
  simp only [update] at hf
  obtain ⟨b,hb,hf⟩:=bnd_some hf
  have hsn:=sameNow_sound hd hk hj hb
  cases b with
  |true =>
   simp at hf;subst hf
   refine .inr ⟨0,e.val,by simp [Instr.findNow,hsn],⟨e,rfl,sameBits_of hk hj hb⟩,?_⟩
   simp only [List.modify_zero_cons]
   exact .cons _ _ _ _ _ hk hv hs
  |false =>
   simp at hf
   obtain ⟨r',h1,h2⟩:=bnd_some hf
   simp at h2;subst h2
   rcases update_sound hd hk hv en es (i + 1) r' hs h1 with ⟨q1,q2⟩ | ⟨p,x,q1,q2,q3⟩
   ·exact .inl ⟨by simp [Instr.findNow,hsn,q1],fun e' h1 h2=>.cons _ _ _ _ _ hj hu (q2 e' h1 h2)⟩
   ·refine .inr ⟨p + 1,x,?_,by simpa using q2,?_⟩
    ·simp only [Instr.findNow,hsn,q1]
     have e1:i + 1 + p=i + (p + 1):=by omega
     rw [e1]
    ·simp only [List.modify_succ_cons]
     exact .cons _ _ _ _ _ hj hu q3
theorem remove_sound {kt:Nat} {d:TypeDesc} (hd:keyD kt d=true) {k:FV} {vk:Value} (hk:R g w k vk):∀ (en:List (FV × FV)) (es:List MapEntry) (i:Nat) (en':List (FV × FV)),EnOk g w en es→remove kt k en=some en' →
  (Instr.findNow d vk es i=some none∧EnOk g w en' es) ∨ (∃ p x,Instr.findNow d vk es i=some (some (i + p,x))∧p < es.length∧EnOk g w en' (es.eraseIdx p))
 |[],[],i,en',_,hf=>by simp [remove] at hf;subst hf;exact .inl ⟨rfl,.nil⟩
 |(j,u)::en,e::es,i,en',he,hf=>by
  cases he with
  |cons _ _ _ _ _ hj hu hs =>
  simp only [remove] at hf
  obtain ⟨b,hb,hf⟩:=bnd_some hf
  have hsn:=sameNow_sound hd hk hj hb
  cases b with
  |true =>
   simp at hf;subst hf
   exact .inr ⟨0,e.val,by simp [Instr.findNow,hsn],by simp,hs⟩
  |false =>
   simp at hf
   obtain ⟨r',h1,h2⟩:=bnd_some hf
   simp at h2;subst h2
   rcases remove_sound hd hk en es (i + 1) r' hs h1 with ⟨q1,q2⟩ | ⟨p,x,q1,q2,q3⟩
   ·exact .inl ⟨by simp [Instr.findNow,hsn,q1],.cons _ _ _ _ _ hj hu q2⟩
   ·refine .inr ⟨p + 1,x,?_,by simpa using q2,?_⟩
    ·simp only [Instr.findNow,hsn,q1]
     have e1:i + 1 + p=i + (p + 1):=by omega
     rw [e1]
    ·simpa using .cons _ _ _ _ _ hj hu q3
theorem run_findKey {d:TypeDesc} {t:TypeId} (ht:P.underlying t=some d) {vk:Value} {es:List MapEntry} {r:Option (Nat × Value)} (hf:Instr.findNow d vk es 0=some r):(Instr.findKey t vk es).run P w=.ok r w:=by
 simp [Instr.findKey,underlying,ht,hf]
theorem keyD_cases {kt:Nat} {d:TypeDesc} (hd:keyD kt d=true):(∃ k,d=.int k) ∨ d=.string:=by
 unfold keyD at hd
 split at hd
 ·exact .inl ⟨_,rfl⟩
 ·exact .inr rfl
 ·simp at hd
theorem run_checkKey {kt:Nat} {d:TypeDesc} (hd:keyD kt d=true) {t:TypeId} (ht:P.underlying t=some d) (emp:Bool) (vk:Value):(Instr.checkKey emp 10000 t vk).run P w=.ok () w:=by
 show (Instr.checkKey emp (9999 + 1) t vk).run P w=_
 rw [Instr.checkKey]
 rcases keyD_cases hd with ⟨k,rfl⟩ | rfl
 ·simp only [Sem.run_bind,run_underlying ht,Result.andThen_ok];cases vk<;>rfl
 ·simp only [Sem.run_bind,run_underlying ht,Result.andThen_ok];cases vk<;>rfl
def okMap (P:Program) (op:Op):O→Bool
 |.lk kt z ok x k=>match op with
  |.lookup t x' k' ok'=>ok' == ok && okX x' x && okX k' k && isDesc P t (fun d=>match d with
    |.map kd ed=>isDesc P kd (keyD kt) && (match P.info? ed with
     |some i=>match i.zero with
      |some v=>okV v z
      |none=>false
     |none=>false)
    |_=>false)
  |_=>false
 |.mu kt x k v=>match op with
  |.mapUpdate t x' k' v' | .insert t x' k' v'=>okX x' x && okX k' k && okX v' v && isDesc P t (fun d=>match d with
    |.map kd _=>isDesc P kd (keyD kt)
    |_=>false)
  |_=>false
 |.dl kt x k=>match op with
  |.call ⟨.builtin .delete,args,ts⟩=>okXs args.toList [x,k] && (match ts.toList with
    |t::_=>isDesc P t (fun d=>match d with
      |.map kd _=>isDesc P kd (keyD kt)
      |_=>false)
    |_=>false)
  |_=>false
 |_=>false
theorem map_at (hI:Inv B w0 g h w) {id:Nat} {vx:Value} (hx:R g w (.map id) vx) {en:List (FV × FV)} (hg:hget h id=some (.mp en)) :
  ∃ b l es clock,vx=.map (some b)∧g.κ id=some l∧l.blk=some b∧l.mp=true∧w.heap[b]? = some (.map es clock)∧EnOk g w en es.toList∧Stamps es.toList clock:=by
 cases hx with | map _ b l hk hm hb =>
 obtain ⟨l',k1,k2⟩:=hI.obj' hk hg
 rw [hk] at k1;cases k1
 obtain ⟨k3,_,b',es,clock,k4,k5,k6,k7⟩:=k2
 rw [hb] at k4;cases k4
 exact ⟨b,l,es,clock,rfl,hk,hb,hm,k5,k6,k7⟩
theorem run_getObj_map {b:Nat} {es:Array MapEntry} {clock:Nat} (hb:w.heap[b]? = some (.map es clock)):(getObj b).run P w=.ok (.map es clock) w:=by
 simp [getObj,Sem.run,hb]
theorem e_lk (hI:Inv B w0 g h w) (hm:RT g w m a) {kt:Nat} {z:FV} {ok:Bool} {x k:X} (hok:okMap P op (.lk kt z ok x k)=true) (hh:lookup h kt z ok (ev m k) (ev m x)=some v) :
  ∃ y,(execOp a.eval ⟨dst,op,ty,pos,aft,gd⟩).run P w=.ok (.value y) w∧R g w v y:=by
 cases op<;>simp only [okMap,Bool.false_eq_true] at hok
 rename_i t x' k' ok'
 simp only [Bool.and_eq_true,beq_iff_eq] at hok
 obtain ⟨⟨⟨rfl,h1⟩,h2⟩,h3⟩:=hok
 obtain ⟨d,hd,hp⟩:=desc_of h3
 cases d<;>simp only [Bool.false_eq_true] at hp
 rename_i kd ed
 simp only [Bool.and_eq_true] at hp
 obtain ⟨hkd,hz⟩:=hp
 obtain ⟨dk,hdk,hkt⟩:=desc_of hkd
 have hzv:∃ zv,(zeroValue ed).run P w=.ok zv w∧R g w z zv:=by
  split at hz
  ·split at hz
   ·rename_i i hi _ zv hzv
    exact ⟨zv,by simp [zeroValue,typeInfo,hi,hzv],R_okV hz⟩
   ·simp at hz
  ·simp at hz
 obtain ⟨zv,hz1,hz2⟩:=hzv
 have rx:=R_okX hm h1
 have rk:=R_okX hm h2
 have fin:∀ (u:FV) (uv:Value) (b:Bool),R g w u uv→R g w (if ok'=true then .tup [u,.bool b] else u) (if ok'=true then .tuple #[uv,.bool b] else uv):=by
  intro u uv b hu
  cases ok'
  ·exact hu
  ·exact .tup [u,.bool b] [uv,.bool b] (.cons _ _ _ _ hu (.cons _ _ _ _ (.bool b) .nil))
 have key:∀ y,(Instr.lookup t (a.eval x') (a.eval k') ok').run P w=.ok y w→(execOp a.eval ⟨dst,.lookup t x' k' ok',ty,pos,aft,gd⟩).run P w=.ok (.value y) w:=fun y hy =>
  exec_of_value (Instr.lookup t (a.eval x') (a.eval k') ok') rfl hy
 unfold lookup at hh
 split at hh
 ·rename_i hx
  rw [hx] at rx
  simp only [Option.some.injEq] at hh;subst hh
  have:a.eval x'=.map none:=by generalize a.eval x'=q at rx;cases rx;rfl
  refine ⟨_,key _ ?_,fin z zv false hz2⟩
  rw [this]
  simp only [Instr.lookup,Sem.run_bind,run_underlying hd,Result.andThen_ok,Sem.run_pure,run_checkKey hkt hdk,run_findKey hdk (show Instr.findNow dk (a.eval k') (#[]:Array MapEntry).toList 0=some none from rfl),hz1]
 ·rename_i id hx
  rw [hx] at rx
  split at hh
  ·rename_i en hg
   obtain ⟨r,hr,hh2⟩:=bnd_some hh
   obtain ⟨b,l,es,clock,e1,_,_,_,e2,e3,_⟩:=map_at hI rx hg
   obtain ⟨r',q1,q2⟩:=find_sound hkt rk en es.toList 0 r e3 hr
   have hk:=run_findKey (P:=P) (w:=w) hdk q1
   cases r with
   |none =>
    cases r' with
    |some p=>exact q2.elim
    |none =>
    simp only [Option.some.injEq] at hh2;subst hh2
    refine ⟨_,key _ ?_,fin z zv false hz2⟩
    rw [e1]
    simp only [Instr.lookup,Sem.run_bind,run_underlying hd,Result.andThen_ok,Sem.run_pure,run_getObj_map e2,run_checkKey hkt hdk,hk,hz1]
   |some u =>
    cases r' with
    |none=>exact q2.elim
    |some p =>
    obtain ⟨pi,pv⟩:=p
    simp only [Option.some.injEq] at hh2;subst hh2
    refine ⟨_,key _ ?_,fin u pv true q2⟩
    rw [e1]
    simp only [Instr.lookup,Sem.run_bind,run_underlying hd,Result.andThen_ok,Sem.run_pure,run_getObj_map e2,run_checkKey hkt hdk,hk]
  ·simp at hh
 ·simp at hh
theorem write_map (hI : Inv B w0 g h w) {id b : Nat} {l : Loc} {en en' : List (FV × FV)} (hg : hget h id = some (.mp en)) (hk : g.κ id = some l) (hb : l.blk = some b) (hmp : l.mp = true) {es es' : Array MapEntry} {clock clock' : Nat} (he : w.heap[b]? = some (.map es clock)) (hen : EnOk g w en' es'.toList) (hst : Stamps es'.toList clock') :
    ∃ w', (setObj b (.map es' clock')).run P w = .ok () w' ∧ Inv B w0 g (hset h id (.mp en')) w' ∧ GLe g g w w' ∧ w'.heap.size = w.heap.size := by
  have hblt : b < w.heap.size := (hI.own id l b hk hb).2.2
  have p : Put g g w { w with heap := w.heap.setIfInBounds b (.map es' clock') } id l :=
    { k := fun i => by split; rename_i e; subst e; exact hk; rfl
      z := rfl
      old := fun l2 hl => by rw [hk] at hl; cases hl; exact ⟨Nat.le_refl _, rfl, fun _ => rfl⟩
      blk := fun c e => .inl ⟨l, hk, e⟩
      heap := fun c _ hc => by
        show (w.heap.setIfInBounds b _)[c]? = _
        rw [Array.getElem?_setIfInBounds_ne]
        intro e; exact hc (by rw [hb, e])
      sz := by simp
      lt := fun c e => by rw [hb] at e; cases e; simpa using hblt
      os := rfl
      tape := rfl
      output := rfl }
  have hle := p.gle hI (fun _ _ => by rw [hg]; rfl)
  refine ⟨_, ?_, hI.put p (hget_hset hg) ?_ (fun _ _ => by rw [hg]; rfl), hle, by simp⟩
  · simp [setObj, Sem.run, he]
  · exact ⟨hmp, (hI.obj id _ l hg hk : MapOk g w l en).hlp, b, es', clock', hb, by simp [hblt], hen.mono hle, hst⟩
theorem keep_map (hm:RT g w m a) {x':Operand} {x:X} (h1:okX x' x=true) {id:Nat} (hx:ev m x=.map id) {q:Obj} (hg:hget h id=some q) (ob:Obj) (i:Nat) (_:¬ (fun _:Nat=>False) i) (hk:g.κ i=none):g.κ i=none∧hget (hset h id ob) i=hget h i:=by
 refine ⟨hk,?_⟩
 rw [hget_hset hg,if_neg]
 intro e
 subst e
 have rx:=R_okX hm h1
 rw [hx] at rx
 generalize a.eval x'=q at rx
 cases rx with | map _ b l hk2 _ _=>rw [hk] at hk2;cases hk2
theorem e_mu (hI:Inv B w0 g h w) (hm:RT g w m a) {kt:Nat} {x k y:X} (hok:okMap P op (.mu kt x k y)=true) {id:Nat} (hx:ev m x=.map id) {en en':List (FV × FV)} (hg:hget h id=some (.mp en)) (hu:update kt (ev m k) (ev m y) en=some en') :
  Does P B w0 g h w a ⟨dst,op,ty,pos,aft,gd⟩ .undef (hset h id (.mp en')) (fun _=>False):=by
 have main:∀ (t:TypeId) (x' k' y':Operand),okX x' x=true→okX k' k=true→okX y' y=true→isDesc P t (fun d=>match d with | .map kd _=>isDesc P kd (keyD kt) | _=>false)=true →
   ∃ w',(Instr.mapUpdate t (a.eval x') (a.eval k') (a.eval y')).run P w=.ok () w'∧Inv B w0 g (hset h id (.mp en')) w'∧GLe g g w w'∧w'.heap.size=w.heap.size:=by
  intro t x' k' y' h1 h2 h3 h4
  obtain ⟨d,hd,hp⟩:=desc_of h4
  cases d<;>simp only [Bool.false_eq_true] at hp
  rename_i kd ed
  obtain ⟨dk,hdk,hkt⟩:=desc_of hp
  have rx:=R_okX hm h1
  have rk:=R_okX hm h2
  have ry:=R_okX hm h3
  rw [hx] at rx
  obtain ⟨b,l,es,clock,e1,e2,e3,e4,e5,e6,e7⟩:=map_at hI rx hg
  rw [e1]
  rcases update_sound hkt rk ry en es.toList 0 en' e6 hu with ⟨q1,q2⟩ | ⟨p,xx,q1,⟨ee,q2,q3⟩,q4⟩
  ·obtain ⟨w',r1,r2,r3,r4⟩:=write_map (P:=P) (es':=es.push { key:=a.eval k',val:=a.eval y',born:=clock }) (clock':=clock + 1) hI hg e2 e3 e4 e5 (by
    rw [Array.toList_push];exact q2 _ rfl rfl) (by
    rw [Array.toList_push]
    refine ⟨fun e he=>?_,?_⟩
    ·rcases List.mem_append.1 he with he | he
     ·exact Nat.lt_succ_of_lt (e7.1 e he)
     ·simp at he;subst he;exact Nat.lt_succ_self _
    ·rw [List.map_append,List.nodup_append]
     refine ⟨e7.2,by simp,fun x hx y hy=>?_⟩
     simp only [List.mem_map] at hx
     obtain ⟨e,he,rfl⟩:=hx
     simp at hy;subst hy
     exact Nat.ne_of_lt (e7.1 e he))
   refine ⟨w',?_,r2,r3,r4⟩
   simp only [Instr.mapUpdate,Sem.run_bind,run_underlying hd,Result.andThen_ok,run_getObj_map e5,run_checkKey hkt hdk,run_findKey hdk q1,r1]
  ·simp only [Nat.zero_add] at q1
   have q2':es[p]? = some ee:=by simpa using q2
   obtain ⟨w',r1,r2,r3,r4⟩:=write_map (P:=P) (es':=es.modify p fun e=>{ e with key:=a.eval k',val:=a.eval y' }) (clock':=clock) hI hg e2 e3 e4 e5 (by
    rw [Array.toList_modify];exact q4) (by
    rw [Array.toList_modify]
    refine ⟨fun e he=>?_,?_⟩
    ·obtain ⟨i,hi,rfl⟩:=List.mem_iff_getElem.1 he
     rw [List.getElem_modify]
     have hi2:i < es.toList.length:=by simpa using hi
     have hlt:=e7.1 es.toList[i] (List.getElem_mem hi2)
     split
     ·exact hlt
     ·exact hlt
    ·have:(es.toList.modify p fun e=>{ e with key:=a.eval k',val:=a.eval y' }).map (·.born)=es.toList.map (·.born):=by
      apply List.ext_getElem
      ·simp
      ·intro i h1 h2
       simp only [List.getElem_map,List.getElem_modify]
       split<;>rfl
     rw [this];exact e7.2)
   refine ⟨w',?_,r2,r3,r4⟩
   simp only [Instr.mapUpdate,Sem.run_bind,run_underlying hd,Result.andThen_ok,run_getObj_map e5,run_checkKey hkt hdk,run_findKey hdk q1,Instr.keyThatStays,q2',Option.map_some,Option.getD_some,q3,if_true,Sem.run_pure]
   exact r1
 cases op<;>simp only [okMap,Bool.false_eq_true] at hok
 ·rename_i t x' k' y'
  simp only [Bool.and_eq_true] at hok
  obtain ⟨⟨⟨h1,h2⟩,h3⟩,h4⟩:=hok
  obtain ⟨w',r1,r2,r3,r4⟩:=main t x' k' y' h1 h2 h3 h4
  refine ⟨g,w',.skip,undef,?_,.inr ⟨rfl,rfl⟩,.undef _,r2,r3,fun b hb=>.inl hb,by omega,keep_map hm h1 hx hg _⟩
  show ((do Instr.mapUpdate t (a.eval x') (a.eval k') (a.eval y');pure .skip:Sem Next)).run P w=_
  simp only [Sem.run_bind,r1,Result.andThen_ok,Sem.run_pure]
 ·rename_i t x' k' y'
  simp only [Bool.and_eq_true] at hok
  obtain ⟨⟨⟨h1,h2⟩,h3⟩,h4⟩:=hok
  obtain ⟨w',r1,r2,r3,r4⟩:=main t x' k' y' h1 h2 h3 h4
  refine ⟨g,w',.skip,undef,?_,.inr ⟨rfl,rfl⟩,.undef _,r2,r3,fun b hb=>.inl hb,by omega,keep_map hm h1 hx hg _⟩
  show ((do Instr.mapUpdate t (a.eval x') (a.eval k') (a.eval y');pure .skip:Sem Next)).run P w=_
  simp only [Sem.run_bind,r1,Result.andThen_ok,Sem.run_pure]
theorem e_dl (hI:Inv B w0 g h w) (hm:RT g w m a) {kt:Nat} {x k:X} (hok:okMap P op (.dl kt x k)=true) {id:Nat} (hx:ev m x=.map id) {en en':List (FV × FV)} (hg:hget h id=some (.mp en)) (hu:remove kt (ev m k) en=some en') :
  Does P B w0 g h w a ⟨dst,op,ty,pos,aft,gd⟩ (.tup []) (hset h id (.mp en')) (fun _=>False):=by
 cases op<;>simp only [okMap,Bool.false_eq_true] at hok
 rename_i c
 obtain ⟨cal,args,ts⟩:=c
 cases cal<;>first | (simp at hok;done) | skip
 rename_i bi
 cases bi<;>first | (simp at hok;done) | skip
 simp only [Bool.and_eq_true] at hok
 obtain ⟨h1,h2⟩:=hok
 obtain ⟨o1,o2,ha,hx1,hk1⟩:=okXs_two h1
 have ea:=arr_of_toList ha;subst ea
 split at h2
 ·rename_i t tr hts
  have et:=arr_of_toList hts;subst et
  obtain ⟨d,hd,hp⟩:=desc_of h2
  cases d<;>simp only [Bool.false_eq_true] at hp
  rename_i kd ed
  obtain ⟨dk,hdk,hkt⟩:=desc_of hp
  have rx:=R_okX hm hx1
  have rk:=R_okX hm hk1
  rw [hx] at rx
  obtain ⟨b,l,es,clock,e1,e2,e3,e4,e5,e6,e7⟩:=map_at hI rx hg
  have key:∀ w',(Builtin.delete_ (t::tr).toArray ty #[a.eval o1,a.eval o2]).run P w=.ok (.tuple #[]) w'→Inv B w0 g (hset h id (.mp en')) w'→GLe g g w w'→w'.heap.size=w.heap.size →
    Does P B w0 g h w a ⟨dst,.call ⟨.builtin .delete,[o1,o2].toArray,(t::tr).toArray⟩,ty,pos,aft,gd⟩ (.tup []) (hset h id (.mp en')) (fun _=>False):=fun w' r1 r2 r3 r4 =>
   ⟨g,w',_,_,exec_builtin (Builtin.delete_ (t::tr).toArray ty #[a.eval o1,a.eval o2]) (fun _=>by rw [map_two];rfl) r1,.inl rfl,.tup [] [] .nil,r2,r3,fun b hb=>.inl hb,by omega,keep_map hm hx1 hx hg _⟩
  rcases remove_sound hkt rk en es.toList 0 en' e6 hu with ⟨q1,q2⟩ | ⟨p,xx,q1,q2,q3⟩
  ·obtain ⟨w',r1,r2,r3,r4⟩:=write_map (P:=P) (es':=es) (clock':=clock) hI hg e2 e3 e4 e5 q2 e7
   refine key w' ?_ r2 r3 r4
   rw [e1]
   simp [Builtin.delete_,run_underlying hd,run_getObj_map e5,run_checkKey hkt hdk,run_findKey hdk q1,r1]
  ·simp only [Nat.zero_add] at q1
   have q2':p < es.size:=by simpa using q2
   obtain ⟨w',r1,r2,r3,r4⟩:=write_map (P:=P) (es':=es.eraseIdxIfInBounds p) (clock':=clock) hI hg e2 e3 e4 e5 (by
    simp only [Array.eraseIdxIfInBounds,q2',dif_pos,Array.toList_eraseIdx];exact q3) (by
    simp only [Array.eraseIdxIfInBounds,q2',dif_pos,Array.toList_eraseIdx]
    exact ⟨fun e he=>e7.1 e (List.mem_of_mem_eraseIdx he),e7.2.sublist ((List.eraseIdx_sublist es.toList p).map _)⟩)
   refine key w' ?_ r2 r3 r4
   rw [e1]
   simp [Builtin.delete_,run_underlying hd,run_getObj_map e5,run_checkKey hkt hdk,run_findKey hdk q1,r1]
 ·simp at h2
end
end Go.FI
