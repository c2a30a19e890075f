/- A part of the proof: see the last text. -/
import Derived.Test.YtkobnfjeehnhlaaGreatDoorFIOpx
set_option linter.all false
namespace Go.FI
open Go.RowKit
variable [Sys]
section
variable {g:Gh} {w:World} {P:Program} {B:Nat} {w0:World} {hp:Heap} {a:Act} {m:Tm} {dst:Option Tmp} {op:Op} {ty:TypeId} {pos:String} {aft:Array Edge} {gd:Option (Nat × Bool)} {v:FV}
def Yields (P:Program) (g:Gh) (w:World) (a:Act) (o:Oper) (v:FV):Prop:=∃ x,(execOp a.eval o).run P w=.ok (.value x) w∧R g w v x
theorem exec_builtin {b:Builtin} {args:Array Operand} {ts:Array TypeId} (s:Sem Value)
  (hs:∀ consts,builtin b ts ty consts (args.map a.eval)=(do pure (.value (← s)))) {z:Value} {w':World} (hz:s.run P w=.ok z w') :
  (execOp a.eval ⟨dst,.call ⟨.builtin b,args,ts⟩,ty,pos,aft,gd⟩).run P w=.ok (.value z) w':=by
 simp only [execOp,resolve,pure_bind,invoke,hs,Sem.run_bind,hz,Result.andThen_ok,Sem.run_pure]
theorem map_one (f:Operand→Value) (x:Operand):Array.map f #[x]=#[f x]:=by simp
theorem map_two (f:Operand→Value) (x y:Operand):Array.map f #[x,y]=#[f x,f y]:=by simp
theorem s_ln (hI:Inv B w0 g hp w) (hm:RT g w m a) {k:Nat} {x:X} (hok:okOp P op (.ln k x)=true) (h:opv hp m (.ln k x)=some v):Yields P g w a ⟨dst,op,ty,pos,aft,gd⟩ v:=by
 cases op<;>simp only [okOp,Bool.false_eq_true] at hok
 rename_i c
 obtain ⟨cal,args,ts⟩:=c
 cases cal<;>first | (simp at hok;done) | skip
 rename_i bi
 cases bi<;>first | (simp at hok;done) | skip
 try simp only at hok
 split at hok
 ·rename_i x' t ha ht
  simp only [Bool.and_eq_true] at hok
  obtain ⟨h1,h2⟩:=hok
  obtain ⟨d,hd,hp'⟩:=desc_of h2
  have ea:=arr_of_toList ha
  have et:=arr_of_toList ht
  subst ea;subst et
  have r:=R_okX hm h1
  have key:∀ z,(Builtin.len_ #[t] ty #[a.eval x']).run P w=.ok z w→R g w v z→Yields P g w a ⟨dst,.call ⟨.builtin .len,[x'].toArray,[t].toArray⟩,ty,pos,aft,gd⟩ v:=fun z hz hR =>
   ⟨z,exec_builtin (Builtin.len_ #[t] ty #[a.eval x']) (fun _=>by rw [map_one];rfl) hz,hR⟩
  match k with
  |0 =>
   cases d<;>simp [isStr] at hp'
   simp only [opv] at h
   split at h
   ·rename_i s hs
    obtain ⟨s',r1,rfl⟩:=R_str (hs ▸ r:R g w (.str s) (a.eval x'))
    simp only [Option.some.injEq] at h;subst h
    refine key (.int .i64 s'.size) ?_ (.int _ _)
    rw [r1]
    simp [Builtin.len_,underlying,hd,goInt]
   ·simp at h
  |1 =>
   cases d<;>simp [isSlice] at hp'
   simp only [opv] at h
   split at h
   ·rename_i e xs hs
    rw [hs] at r
    simp only [Option.some.injEq] at h;subst h
    have:∃ b c,a.eval x'=.slice b xs.length c:=by generalize a.eval x'=q at r;cases r<;>exact ⟨_,_,rfl⟩
    obtain ⟨b,c,e1⟩:=this
    refine key (.int .i64 xs.length) ?_ (.int _ _)
    rw [e1]
    simp [Builtin.len_,underlying,hd,goInt]
   ·rename_i es i s o l hs
    rw [hs] at r
    simp only [Option.some.injEq] at h;subst h
    have:∃ b c,a.eval x'=.slice b l c:=by generalize a.eval x'=q at r;cases r;exact ⟨_,_,rfl⟩
    obtain ⟨b,c,e1⟩:=this
    refine key (.int .i64 l) ?_ (.int _ _)
    rw [e1]
    simp [Builtin.len_,underlying,hd,goInt]
   ·simp at h
  |2 =>
   cases d<;>simp [isMap] at hp'
   simp only [opv] at h
   split at h
   ·rename_i id hs
    rw [hs] at r
    split at h
    ·rename_i en hg
     simp only [Option.some.injEq] at h;subst h
     have:∃ b l,a.eval x'=.map (some b)∧g.κ id=some l∧l.blk=some b:=by generalize a.eval x'=q at r;cases r;exact ⟨_,_,rfl,by assumption,by assumption⟩
     obtain ⟨b,l,e1,e2,e3⟩:=this
     obtain ⟨l',k1,k2⟩:=hI.obj' e2 hg
     rw [e2] at k1;cases k1
     obtain ⟨k3,_,b',es,clock,k4,k5,k6⟩:=k2
     rw [e3] at k4;cases k4
     have hlen:en.length=es.size:=by
      have:∀ (en:List (FV × FV)) es,EnOk g w en es→en.length=es.length:=by
       intro en es he;induction he<;>simp_all
      simpa using this _ _ k6.1
     refine key (.int .i64 en.length) ?_ (.int _ _)
     rw [e1]
     simp [Builtin.len_,underlying,hd,goInt,getObj,Sem.run,k5,hlen]
    ·simp at h
   ·rename_i hs
    rw [hs] at r
    simp only [Option.some.injEq] at h;subst h
    have:a.eval x'=.map none:=by generalize a.eval x'=q at r;cases r;rfl
    refine key (.int .i64 0) ?_ (.int _ _)
    rw [this]
    simp [Builtin.len_,underlying,hd,goInt]
   ·simp at h
  |k + 3=>simp [opv] at h
 ·simp at hok
theorem s_mx (hm:RT g w m a) {x y:X} (hok:okOp P op (.mx x y)=true) (h:opv hp m (.mx x y)=some v):Yields P g w a ⟨dst,op,ty,pos,aft,gd⟩ v:=by
 cases op<;>simp only [okOp,Bool.false_eq_true] at hok
 rename_i c
 obtain ⟨cal,args,ts⟩:=c
 cases cal<;>first | (simp at hok;done) | skip
 rename_i bi
 cases bi<;>first | (simp at hok;done) | skip
 try simp only at hok
 obtain ⟨o1,o2,ha,h1,h2⟩:=okXs_two hok
 have ea:=arr_of_toList ha;subst ea
 simp only [opv] at h
 split at h
 ·rename_i k n j n' hx hy
  obtain ⟨rfl,h3⟩:=chk_some h
  have r1:=R_int (hx ▸ R_okX hm h1:R g w (.int k n) (a.eval o1))
  have r2:=R_int (hy ▸ R_okX hm h2:R g w (.int k n') (a.eval o2))
  simp only [Option.some.injEq] at h3;subst h3
  refine ⟨_,exec_builtin (Builtin.max_ ts ty #[a.eval o1,a.eval o2]) (fun _=>by rw [map_two];rfl) (z:=.int k (if n < n' then n' else n)) (w':=w) ?_,.int _ _⟩
  rw [r1,r2]
  simp [Builtin.max_,Builtin.max2]
 ·simp at h
theorem s_mn (hm:RT g w m a) {x y:X} (hok:okOp P op (.mn x y)=true) (h:opv hp m (.mn x y)=some v):Yields P g w a ⟨dst,op,ty,pos,aft,gd⟩ v:=by
 cases op<;>simp only [okOp,Bool.false_eq_true] at hok
 rename_i c
 obtain ⟨cal,args,ts⟩:=c
 cases cal<;>first | (simp at hok;done) | skip
 rename_i bi
 cases bi<;>first | (simp at hok;done) | skip
 try simp only at hok
 obtain ⟨o1,o2,ha,h1,h2⟩:=okXs_two hok
 have ea:=arr_of_toList ha;subst ea
 simp only [opv] at h
 split at h
 ·rename_i k n j n' hx hy
  obtain ⟨rfl,h3⟩:=chk_some h
  have r1:=R_int (hx ▸ R_okX hm h1:R g w (.int k n) (a.eval o1))
  have r2:=R_int (hy ▸ R_okX hm h2:R g w (.int k n') (a.eval o2))
  simp only [Option.some.injEq] at h3;subst h3
  refine ⟨_,exec_builtin (Builtin.min_ ts ty #[a.eval o1,a.eval o2]) (fun _=>by rw [map_two];rfl) (z:=.int k (if n' < n then n' else n)) (w':=w) ?_,.int _ _⟩
  rw [r1,r2]
  simp [Builtin.min_,Builtin.min2]
 ·simp at h
theorem s_cv (hm:RT g w m a) {k:IntKind} {x:X} (hok:okOp P op (.cv k x)=true) (h:opv hp m (.cv k x)=some v):Yields P g w a ⟨dst,op,ty,pos,aft,gd⟩ v:=by
 cases op<;>simp only [okOp,Bool.false_eq_true] at hok
 rename_i s d x'
 simp only [Bool.and_eq_true] at hok
 obtain ⟨⟨h1,h2⟩,h3⟩:=hok
 obtain ⟨dd,hd,hp'⟩:=desc_of h3
 cases dd<;>simp [isInt] at hp'
 subst hp'
 simp only [opv] at h
 split at h
 ·rename_i j n hx
  have r1:=R_int (hx ▸ R_okX hm h1:R g w (.int j n) (a.eval x'))
  simp only [Option.some.injEq] at h;subst h
  refine ⟨_,exec_of_value (convert s d (a.eval x')) rfl (z:=.int _ (IntKind.wrap _ n)) (w':=w) ?_,.int _ _⟩
  rw [r1]
  cases hs:P.underlying s with
  |none=>simp [hs] at h2
  |some ds=>simp [convert,underlying,hs,hd,Conv.intToInt]
 ·simp at h
theorem s_ld (hI:Inv B w0 g hp w) (hm:RT g w m a) {ag:Option Nat} {x:X} (hok:okOp P op (.ld ag x)=true) (h:opv hp m (.ld ag x)=some v):Yields P g w a ⟨dst,op,ty,pos,aft,gd⟩ v:=by
 cases op<;>simp only [okOp,Bool.false_eq_true] at hok
 rename_i t x'
 simp only [Bool.and_eq_true] at hok
 simp only [opv] at h
 obtain ⟨ad,z,h1,h2,h3⟩:=loadv_sound (P:=P) hI (R_okX hm hok.1) hok.2 h
 refine ⟨z,exec_of_value (Instr.loadAt t (a.eval x')) rfl (w':=w) ?_,h3⟩
 rw [h1];simp [Instr.loadAt,Instr.sureAddr,h2]
theorem structOff_of {t:TypeId} {f off:Nat} (h:structOff P t f off=true):∃ fs fd,P.underlying t=some (.struct fs)∧fs[f]? = some fd∧fd.offset=off∧∃ i,P.info? fd.type=some i∧i.size ≠ 0:=by
 unfold structOff at h
 split at h
 ·split at h
  ·simp only [Bool.and_eq_true,beq_iff_eq] at h
   refine ⟨_,_,by assumption,by assumption,h.1,?_⟩
   have h2:=h.2
   unfold posSize at h2
   split at h2
   ·exact ⟨_,by assumption,by simpa using h2⟩
   ·simp at h2
  ·simp at h
 ·simp at h
theorem run_fieldAt {t:TypeId} {f off:Nat} (ad:Addr) (h:structOff P t f off=true):(Instr.fieldAt t (.pointer (some ad)) f).run P w=.ok (.pointer (some (ad.add off))) w:=by
 obtain ⟨fs,fd,h1,h2,rfl,i,h3,h4⟩:=structOff_of h
 simp [Instr.fieldAt,underlying,h1,h2,Instr.sureAddr,fieldPlace,sizeOf,typeInfo,h3,h4]
theorem s_fa (hm:RT g w m a) {off:Nat} {x:X} (hok:okOp P op (.fa off x)=true) (h:opv hp m (.fa off x)=some v):Yields P g w a ⟨dst,op,ty,pos,aft,gd⟩ v:=by
 cases op<;>simp only [okOp,Bool.false_eq_true] at hok
 rename_i t x' f
 simp only [Bool.and_eq_true] at hok
 have r:=R_okX hm hok.1
 simp only [opv] at h
 split at h
 ·rename_i id s i o hx
  rw [hx] at r
  simp only [Option.some.injEq] at h;subst h
  generalize hv:a.eval x'=q at r
  cases r with | ptr _ _ _ _ l ad hk hs hh =>
  refine ⟨_,exec_of_value (Instr.fieldAt t (a.eval x') f) rfl (z:=.pointer (some (ad.add off))) (w':=w) ?_,.ptr _ _ _ _ l _ hk hs fun e=>?_⟩
  ·rw [hv,run_fieldAt _ hok.2]
  ·obtain ⟨b,h1,rfl⟩:=hh e
   exact ⟨b,h1,by rw [add_addr,Nat.add_assoc]⟩
 ·rename_i cs o hx
  rw [hx] at r
  simp only [Option.some.injEq] at h;subst h
  generalize hv:a.eval x'=q at r
  cases r with | eptr _ _ b o' vs hne hZ hr hc =>
  refine ⟨_,exec_of_value (Instr.fieldAt t (a.eval x') f) rfl (z:=.pointer (some ⟨b,o' + (o + off),none⟩)) (w':=w) ?_,.eptr _ _ b o' vs hne hZ hr hc⟩
  rw [hv,run_fieldAt _ hok.2,add_addr,Nat.add_assoc]
 ·simp at h
theorem s_nc (hm:RT g w m a) {x:X} (hok:okOp P op (.nc x)=true) (h:opv hp m (.nc x)=some v):Yields P g w a ⟨dst,op,ty,pos,aft,gd⟩ v:=by
 cases op<;>simp only [okOp,Bool.false_eq_true] at hok
 rename_i x'
 have r:=R_okX hm hok
 simp only [opv] at h
 split at h
 ·rename_i id s i o hx
  rw [hx] at r
  simp only [Option.some.injEq] at h;subst h
  generalize hv:a.eval x'=q at r
  refine ⟨q,?_,r⟩
  cases r
  simp [execOp,hv]
 ·rename_i f cs hx
  rw [hx] at r
  simp only [Option.some.injEq] at h;subst h
  generalize hv:a.eval x'=q at r
  refine ⟨q,?_,r⟩
  cases r
  simp [execOp,hv]
 ·rename_i f cs hx
  rw [hx] at r
  simp only [Option.some.injEq] at h;subst h
  generalize hv:a.eval x'=q at r
  refine ⟨q,?_,r⟩
  cases r
  simp [execOp,hv]
 ·simp at h
theorem s_ex (hm:RT g w m a) {x:X} {i:Nat} (hok:okOp P op (.ex x i)=true) (h:opv hp m (.ex x i)=some v):Yields P g w a ⟨dst,op,ty,pos,aft,gd⟩ v:=by
 cases op<;>simp only [okOp,Bool.false_eq_true] at hok
 rename_i x' i'
 simp only [Bool.and_eq_true,beq_iff_eq] at hok
 obtain ⟨h1,rfl⟩:=hok
 have r:=R_okX hm h1
 simp only [opv] at h
 split at h
 ·rename_i vs hx
  rw [hx] at r
  obtain ⟨xs,e,hr⟩:=R_tup r
  obtain ⟨z,hz,hR⟩:=hr.get _ _ h
  refine ⟨z,exec_of_value (Instr.extract (a.eval x') i') rfl (w':=w) ?_,hR⟩
  rw [e]
  simp [Instr.extract,hz]
 ·simp at h
theorem s_sl (hm:RT g w m a) {es:Nat} {x:X} {lo hi:Option X} (hok:okOp P op (.sl es x lo hi)=true) (h:opv hp m (.sl es x lo hi)=some v):Yields P g w a ⟨dst,op,ty,pos,aft,gd⟩ v:=by
 cases op<;>simp only [okOp,Bool.false_eq_true] at hok
 rename_i t x' lo' hi' mx
 cases mx with
 |some _=>simp at hok
 |none =>
 simp only [Bool.and_eq_true] at hok
 obtain ⟨⟨⟨h1,h2⟩,h3⟩,h4⟩:=hok
 simp only [opv] at h
 obtain ⟨z,hz,hR⟩:=slice_sound (P:=P) hm (R_okX hm h1) h2 h3 h4 h
 exact ⟨z,exec_of_value (Instr.sliceAt t (a.eval x') (lo'.map a.eval) (hi'.map a.eval) none) rfl (w':=w) hz,hR⟩
theorem s_mf (hm:RT g w m a) {f:Nat} {caps:List X} (hok:okOp P op (.mf f caps)=true) (h:opv hp m (.mf f caps)=some v):Yields P g w a ⟨dst,op,ty,pos,aft,gd⟩ v:=by
 cases op<;>simp only [okOp,Bool.false_eq_true] at hok
 rename_i fn first caps'
 obtain ⟨f',rfl⟩:∃ f',fn=.func f':=by cases fn<;>simp at hok;exact ⟨_,rfl⟩
 simp only [Bool.and_eq_true,beq_iff_eq] at hok
 obtain ⟨⟨⟨rfl,hlt⟩,h2⟩,h3⟩:=hok
 simp only [opv,Option.some.injEq] at h;subst h
 have hr:=RL_okXs hm h3
 have e1:first.map a.eval=#[]:=by simp at h2;simp [h2]
 have e2:caps'.map a.eval=(caps'.toList.map a.eval).toArray:=by cases caps';simp
 exact ⟨_,exec_of_value (Instr.makeFunc (.func _) (first.map a.eval) (caps'.map a.eval)) rfl (z:=.func (.func _) #[] (caps'.toList.map a.eval).toArray) (w':=w) (by rw [e1,e2];rfl),.fn _ _ _ (of_decide_eq_true hlt) hr⟩
theorem s_mi (hm:RT g w m a) {t:Nat} {x:X} (hok:okOp P op (.mi t x)=true) (h:opv hp m (.mi t x)=some v):Yields P g w a ⟨dst,op,ty,pos,aft,gd⟩ v:=by
 cases op<;>simp only [okOp,Bool.false_eq_true] at hok
 rename_i t' x'
 simp only [Bool.and_eq_true,beq_iff_eq] at hok
 obtain ⟨⟨rfl,h2⟩,h3⟩:=hok
 obtain ⟨d,hd,hp'⟩:=desc_of h3
 simp only [opv,Option.some.injEq] at h;subst h
 refine ⟨_,exec_of_value (Instr.makeInterface t' (a.eval x')) rfl (z:=.iface t' (a.eval x')) (w':=w) ?_,.ifc _ _ _ (R_okX hm h2)⟩
 cases d<;>simp [isIface] at hp'<;>simp [Instr.makeInterface,underlying,hd]
theorem s_xs (hm:RT g w m a) {x y:X} (hok:okOp P op (.sx x y)=true) (h:opv hp m (.sx x y)=some v):Yields P g w a ⟨dst,op,ty,pos,aft,gd⟩ v:=by
 cases op<;>simp only [okOp,Bool.false_eq_true] at hok
 rename_i c
 obtain ⟨cal,args,ts⟩:=c
 cases cal<;>first | (simp at hok;done) | skip
 rename_i fo
 cases fo<;>first | (simp at hok;done) | skip
 rename_i f
 simp only [Bool.and_eq_true] at hok
 obtain ⟨h1,h2⟩:=hok
 split at h2
 ·rename_i fn hf
  simp only [Bool.and_eq_true,beq_iff_eq] at h2
  obtain ⟨⟨hn,ho⟩,hb⟩:=h2
  have hr:=RL_okXs hm h1
  simp only [evs] at hr
  simp only [opv] at h
  split at h
  ·rename_i s t hs ht
   simp only [Option.some.injEq] at h;subst h
   rw [hs,ht] at hr
   have e1:args.map a.eval=(args.toList.map a.eval).toArray:=by cases args;simp
   generalize args.toList.map a.eval=l at hr e1
   cases hr with | cons _ v1 _ l1 r1 hr =>
   cases hr with | cons _ v2 _ l2 r2 hr =>
   cases hr
   cases r1 with | str sa =>
   cases r2 with | str sb =>
   have hfind:Extern.find fn=some Extern.BytealgCompare.compare:=by
    unfold Extern.find
    rw [hn]
    rfl
   have hnext:Extern.findNext fn=none:=by
    unfold Extern.findNext
    rw [hn,ho]
    rfl
   refine ⟨.int .i64 (Lib.compareBytes sa.data.toList sb.data.toList),?_,.int _ _⟩
   have e2:(#[] ++ args.map a.eval) ++ (#[]:Array Value)=#[.string sa,.string sb]:=by rw [e1];simp
   have hf':a.eval (.func f)=.func (.func f) #[] #[]:=rfl
   simp only [execOp,resolve,hf',Deferred.ofValue,pure_bind,invoke]
   rw [e2,run_callFunc_extern hf (by rw [hn];decide) hb hnext hfind,Lib.run_compareString]
   rfl
  ·simp at h
 ·simp at h2
theorem run_indexByte (s:ByteArray) (n:Int):(Extern.BytealgIndexByte.indexByte #[.string s,.int .u8 n]).run P w=.ok (.int .i64 (idxB s.data.toList n.toNat.toUInt8)) w:=by
 have e:(List.range s.size).find? (fun i=>s[i]! == n.toNat.toUInt8)=(List.range s.data.toList.length).find? (fun i=>s.data.toList.getD i 0 == n.toNat.toUInt8):=by
  have hl:s.data.toList.length=s.size:=Array.length_toList
  rw [hl]
  have:∀ l:List Nat,(∀ i ∈ l,i < s.size)→l.find? (fun i=>s[i]! == n.toNat.toUInt8)=l.find? (fun i=>s.data.toList.getD i 0 == n.toNat.toUInt8):=by
   intro l
   induction l with
   |nil=>intro _;rfl
   |cons i l ih =>
    intro h
    have h1:s[i]! = s.data.toList.getD i 0:=by
     have hi:=h i (by simp)
     rw [List.getD_eq_getElem?_getD,List.getElem?_eq_getElem (show i < s.data.toList.length by rw [hl];exact hi)]
     rw [getElem!_pos s i hi]
     rfl
    simp only [List.find?_cons,h1,ih fun j hj=>h j (by simp [hj])]
  exact this _ fun i hi=>by simpa using hi
 show (match (List.range s.size).find? (fun i=>s[i]! == n.toNat.toUInt8) with | some i=>(pure (goInt i):Sem Value) | none=>pure (goInt (-1))).run P w=_
 rw [e]
 unfold idxB
 cases (List.range s.data.toList.length).find? (fun i=>s.data.toList.getD i 0 == n.toNat.toUInt8)<;>rfl
theorem s_ib (hm:RT g w m a) {x y:X} (hok:okOp P op (.ib x y)=true) (h:opv hp m (.ib x y)=some v):Yields P g w a ⟨dst,op,ty,pos,aft,gd⟩ v:=by
 cases op<;>simp only [okOp,Bool.false_eq_true] at hok
 rename_i c
 obtain ⟨cal,args,ts⟩:=c
 cases cal<;>first | (simp at hok;done) | skip
 rename_i fo
 cases fo<;>first | (simp at hok;done) | skip
 rename_i f
 simp only [Bool.and_eq_true] at hok
 obtain ⟨h1,h2⟩:=hok
 split at h2
 ·rename_i fn hf
  simp only [Bool.and_eq_true,beq_iff_eq] at h2
  obtain ⟨⟨hn,ho⟩,hb⟩:=h2
  have hr:=RL_okXs hm h1
  simp only [evs] at hr
  simp only [opv] at h
  split at h
  ·rename_i s t hs ht
   simp only [Option.some.injEq] at h;subst h
   rw [hs,ht] at hr
   have e1:args.map a.eval=(args.toList.map a.eval).toArray:=by cases args;simp
   generalize args.toList.map a.eval=l at hr e1
   cases hr with | cons _ v1 _ l1 r1 hr =>
   cases hr with | cons _ v2 _ l2 r2 hr =>
   cases hr
   cases r1 with | str sa =>
   cases r2 with | int _ _ =>
   have hfind:Extern.find fn=some Extern.BytealgIndexByte.indexByte:=by
    unfold Extern.find
    rw [hn]
    rfl
   have hnext:Extern.findNext fn=none:=by
    unfold Extern.findNext
    rw [hn,ho]
    rfl
   refine ⟨.int .i64 (idxB sa.data.toList t.toNat.toUInt8),?_,.int _ _⟩
   have e2:(#[] ++ args.map a.eval) ++ (#[]:Array Value)=#[.string sa,.int .u8 t]:=by rw [e1];simp
   have hf':a.eval (.func f)=.func (.func f) #[] #[]:=rfl
   simp only [execOp,resolve,hf',Deferred.ofValue,pure_bind,invoke]
   rw [e2,run_callFunc_extern hf (by rw [hn];decide) hb hnext hfind,run_indexByte]
   rfl
  ·simp at h
 ·simp at h2
theorem asIntOf_int (k:IntKind) (n:Int):(asIntOf (.int k n)).run P w=.ok (k,n) w:=rfl
theorem s_ia (hm:RT g w m a) {es:Nat} {x y:X} (hok:okOp P op (.ia es x y)=true) (h:opv hp m (.ia es x y)=some v):Yields P g w a ⟨dst,op,ty,pos,aft,gd⟩ v:=by
 cases op<;>simp only [okOp,Bool.false_eq_true] at hok
 rename_i t o1 o2
 simp only [Bool.and_eq_true] at hok
 obtain ⟨⟨h1,h2⟩,h3⟩:=hok
 obtain ⟨d,hd,hp'⟩:=desc_of h3
 cases d<;>simp [isSl] at hp'
 rename_i elem
 have r:=R_okX hm h1
 have r':=R_okX hm h2
 have key:∀ (ad:Addr) (len cap:Nat) (k:IntKind) (n:Int),a.eval o1=.slice (some ad) len cap→a.eval o2=.int k n→0 ≤ n→n < len →
   (execOp a.eval ⟨dst,.indexAddr t o1 o2,ty,pos,aft,gd⟩).run P w=.ok (.value (.pointer (some (ad.add (n.toNat * es))))) w:=by
  intro ad len cap k n e1 e2 h0 h5
  refine exec_of_value (Instr.indexAt t (a.eval o1) (a.eval o2)) rfl ?_
  rw [e1,e2]
  have:(0 ≤ n∧n < (len:Int)):=⟨h0,h5⟩
  simp [Instr.indexAt,asIntOf_int,underlying,hd,this,run_sizeOf w hp'.1]
 simp only [opv] at h
 split at h
 ·rename_i e xs k n hx hy
  obtain ⟨⟨h5,h6⟩,h7⟩:=chk_some h
  obtain ⟨h8,h9⟩:=chk_some h7
  simp only [Option.some.injEq] at h9;subst h9
  rw [hx] at r
  have e2:=R_int (hy ▸ r':R g w (.int k n) (a.eval o2))
  generalize hv:a.eval o1=q at r
  have hlt:n.toNat < xs.length:=by omega
  cases r with
  |lst0 _ _ _ _=>simp at hlt
  |lst _ _ b o es' cap cs hne he hle hZ hes hx' hr hc =>
  have hget:xs[n.toNat]? = some xs[n.toNat]:=List.getElem?_eq_getElem hlt
  have hgd:xs.getD n.toNat .undef=xs[n.toNat]:=by simp [List.getD,hget]
  rw [hgd] at h8 ⊢
  have ees:es'=es:=by have:=(hx' xs[n.toNat] (List.getElem_mem hlt)).1;omega
  subst ees
  have hcut:=hr.cut (n.toNat * es') (n.toNat * es' + es')
  rw [flat_cut (fun y hy=>(hx' y hy).1) hget] at hcut
  refine ⟨_,key _ _ _ k n hv e2 h5 h6,?_⟩
  rw [add_addr]
  have hne0:xs[n.toNat].cells ≠ []:=fun e0=>by
   have:=(hx' xs[n.toNat] (List.getElem_mem hlt)).1
   rw [e0] at this;simp at this;omega
  exact .eptr _ _ b (o + n.toNat * es') _ hne0 hZ hcut fun j u hj=>by
   have:=hc _ u (cut_get _ _ _ _ _ hj)
   rw [Nat.add_assoc];exact this
 ·rename_i es' id s off len k n hx hy
  obtain ⟨rfl,h4⟩:=chk_some h
  obtain ⟨⟨h5,h6⟩,h7⟩:=chk_some h4
  simp only [Option.some.injEq] at h7;subst h7
  rw [hx] at r
  have e2:=R_int (hy ▸ r':R g w (.int k n) (a.eval o2))
  generalize hv:a.eval o1=q at r
  cases r with | sref _ _ _ _ _ l aa cap hk he hs hle ha hh =>
  have hpos:0 < cap:=by omega
  obtain ⟨ad,rfl⟩:=Option.isSome_iff_exists.1 (ha hpos)
  refine ⟨_,key ad _ _ k n hv e2 h5 h6,.ptr _ _ _ _ l _ hk hs fun e=>?_⟩
  obtain ⟨_,_,h7⟩:=hh e
  obtain ⟨b,h8,h9⟩:=h7 hpos
  cases h9
  exact ⟨b,h8,by rw [add_addr,he,Nat.add_mul];rfl⟩
 ·simp at h
theorem s_aa (hm:RT g w m a) {len es:Nat} {x y:X} (hok:okOp P op (.aa len es x y)=true) (h:opv hp m (.aa len es x y)=some v):Yields P g w a ⟨dst,op,ty,pos,aft,gd⟩ v:=by
 cases op<;>simp only [okOp,Bool.false_eq_true] at hok
 rename_i t o1 o2
 simp only [Bool.and_eq_true] at hok
 obtain ⟨⟨h1,h2⟩,h3⟩:=hok
 obtain ⟨d,hd,hp'⟩:=desc_of h3
 cases d<;>simp [isArr] at hp'
 rename_i len' elem
 obtain ⟨e0,hsz⟩:=hp'
 rw [e0] at hd
 have r:=R_okX hm h1
 have r':=R_okX hm h2
 have key:∀ (ad:Addr) (k:IntKind) (n:Int),a.eval o1=.pointer (some ad)→a.eval o2=.int k n→0 ≤ n→n < len →
   (execOp a.eval ⟨dst,.indexAddr t o1 o2,ty,pos,aft,gd⟩).run P w=.ok (.value (.pointer (some (ad.add (n.toNat * es))))) w:=by
  intro ad k n e1 e2 h0 h5
  refine exec_of_value (Instr.indexAt t (a.eval o1) (a.eval o2)) rfl ?_
  rw [e1,e2]
  have:(0 ≤ n∧n < (len:Int)):=⟨h0,h5⟩
  simp [Instr.indexAt,asIntOf_int,underlying,hd,Instr.sureAddr,this,run_sizeOf w hsz]
 simp only [opv] at h
 split at h
 ·rename_i id s j o k n hx hy
  obtain ⟨⟨h5,h6⟩,h7⟩:=chk_some h
  simp only [Option.some.injEq] at h7;subst h7
  rw [hx] at r
  have e2:=R_int (hy ▸ r':R g w (.int k n) (a.eval o2))
  generalize hv:a.eval o1=q at r
  cases r with | ptr _ _ _ _ l ad hk hs hh =>
  refine ⟨_,key _ k n hv e2 h5 h6,.ptr _ _ _ _ l _ hk hs fun e=>?_⟩
  obtain ⟨b,h8,rfl⟩:=hh e
  exact ⟨b,h8,by rw [add_addr,Nat.add_assoc]⟩
 ·rename_i cs o k n hx hy
  obtain ⟨⟨h5,h6⟩,h7⟩:=chk_some h
  simp only [Option.some.injEq] at h7;subst h7
  rw [hx] at r
  have e2:=R_int (hy ▸ r':R g w (.int k n) (a.eval o2))
  generalize hv:a.eval o1=q at r
  cases r with | eptr _ _ b o' vs hne hZ hr hc =>
  refine ⟨_,key _ k n hv e2 h5 h6,?_⟩
  rw [add_addr,Nat.add_assoc]
  exact .eptr _ _ b o' vs hne hZ hr hc
 ·simp at h
end
end Go.FI
