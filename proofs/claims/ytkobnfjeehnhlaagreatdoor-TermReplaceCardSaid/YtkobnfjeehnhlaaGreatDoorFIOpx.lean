/- A part of the proof: see the last text. -/
import Derived.Test.YtkobnfjeehnhlaaGreatDoorFIOpw
set_option linter.all false
namespace Go.FI
open Go.RowKit
variable [Sys]
section
variable {g:Gh} {w:World} {P:Program}
theorem okXs_two {xs:List Operand} {a b:X} (h:okXs xs [a,b]=true):∃ x y,xs=[x,y]∧okX x a=true∧okX y b=true:=by
 match xs with
 |[]=>simp [okXs] at h
 |[x]=>simp [okXs] at h
 |[x,y]=>simp [okXs] at h;exact ⟨x,y,rfl,h.1,h.2⟩
 |x::y::z::r=>simp [okXs] at h
theorem arr_of_toList {α:Type} {a:Array α} {l:List α} (h:a.toList=l):a=l.toArray:=by cases a;simp at h;simp [h]
theorem R_bool {b:Bool} {x:Value} (h:R g w (.bool b) x):x=.bool b:=by cases h;rfl
theorem R_int {k:IntKind} {n:Int} {x:Value} (h:R g w (.int k n) x):x=.int k n:=by cases h;rfl
theorem R_str {l:List UInt8} {x:Value} (h:R g w (.str l) x):∃ s:ByteArray,x=.string s∧s.data.toList=l:=by cases h;exact ⟨_,rfl,rfl⟩
theorem R_agg {l:List FV} {x:Value} (h:R g w (.agg l) x):∃ vs:List Value,x=.agg vs.toArray∧RL g w l vs:=by cases h;exact ⟨_,rfl,by assumption⟩
theorem R_tup {l:List FV} {x:Value} (h:R g w (.tup l) x):∃ vs:List Value,x=.tuple vs.toArray∧RL g w l vs:=by cases h;exact ⟨_,rfl,by assumption⟩
theorem R_fn {f:Nat} {l:List FV} {x:Value} (h:R g w (.fn f l) x):∃ vs:List Value,x=.func (.func f) #[] vs.toArray∧f < RB∧RL g w l vs:=by cases h;exact ⟨_,rfl,by assumption,by assumption⟩
theorem run_equal_bool {t:TypeId} (hd:P.underlying t=some .bool) (x y:Bool):(Op.equal t (.bool x) (.bool y)).run P w=.ok (x == y) w:=by
 show (Op.equalIn (9999 + 1) t (.bool x) (.bool y)).run P w=_
 rw [Op.equalIn]
 simp only [Sem.run_bind,underlying,run_program,Result.andThen_ok,hd,Sem.run_pure]
theorem run_binOp_eql_bool {t:TypeId} (hd:P.underlying t=some .bool) (x y:Bool):(binOp .eql t (.bool x) (.bool y)).run P w=.ok (.bool (x == y)) w:=by
 show (do pure (.bool (← Op.equal t (.bool x) (.bool y))):Sem Value).run P w=_
 simp only [Sem.run_bind,run_equal_bool hd,Result.andThen_ok,Sem.run_pure]
theorem run_binOp_neq_bool {t:TypeId} (hd:P.underlying t=some .bool) (x y:Bool):(binOp .neq t (.bool x) (.bool y)).run P w=.ok (.bool (!(x == y))) w:=by
 show (do pure (.bool (!(← Op.equal t (.bool x) (.bool y)))):Sem Value).run P w=_
 simp only [Sem.run_bind,run_equal_bool hd,Result.andThen_ok,Sem.run_pure]
theorem run_eqGuard_plain (op:BinOp) (t:TypeId) (x y:Operand) {u v:Value} (h:(∀ cs,u ≠ .agg cs)∧u ≠ .nilIface):(eqGuard op t x y u v).run P w=.ok () w:=by
 unfold eqGuard
 cases op<;>simp<;>(cases u<;>simp_all)
theorem exec_of_value {ρ:Operand→Value} {dst:Option Tmp} {op:Op} {ty:TypeId} {pos:String} {aft:Array Edge} {gd:Option (Nat × Bool)} (s:Sem Value) (he:execOp ρ ⟨dst,op,ty,pos,aft,gd⟩=(do pure (.value (← s)))) {z:Value} {w':World} (hs:s.run P w=.ok z w') :
  (execOp ρ ⟨dst,op,ty,pos,aft,gd⟩).run P w=.ok (.value z) w':=by
 rw [he];simp only [Sem.run_bind,hs,Result.andThen_ok,Sem.run_pure]
section
variable {B:Nat} {w0:World} {hp:Heap} {a:Act} {m:Tm} {dst:Option Tmp} {op:Op} {ty:TypeId} {pos:String} {aft:Array Edge} {gd:Option (Nat × Bool)} {v:FV}
theorem s_mv (hm:RT g w m a) {y:X} (hok:okOp P op (.mv y)=true) (h:opv hp m (.mv y)=some v):∃ x,(execOp a.eval ⟨dst,op,ty,pos,aft,gd⟩).run P w=.ok (.value x) w∧R g w v x:=by
 simp only [opv,Option.some.injEq] at h;subst h
 cases op<;>simp only [okOp,Bool.false_eq_true] at hok
 ·exact ⟨_,rfl,R_okX hm hok⟩
 ·exact ⟨_,rfl,R_okX hm hok⟩
theorem s_pk (hm:RT g w m a) {c x y:X} (hok:okOp P op (.pk c x y)=true) (h:opv hp m (.pk c x y)=some v):∃ x,(execOp a.eval ⟨dst,op,ty,pos,aft,gd⟩).run P w=.ok (.value x) w∧R g w v x:=by
 cases op<;>simp [okOp] at hok
 rename_i o1 o2 o3
 obtain ⟨⟨h1,h2⟩,h3⟩:=hok
 simp only [opv] at h
 split at h
 ·rename_i c' hc
  have r1:=R_bool (hc ▸ R_okX hm h1)
  simp at h;subst h
  refine ⟨if c'=true then a.eval o2 else a.eval o3,?_,wrap_of_pick (R_okX hm h2) (R_okX hm h3)⟩
  simp [execOp,asBool,r1]
 ·simp at h
theorem s_bo (hm:RT g w m a) {p:BinOp} {x y:X} (hok:okOp P op (.bo p x y)=true) (h:opv hp m (.bo p x y)=some v):∃ x,(execOp a.eval ⟨dst,op,ty,pos,aft,gd⟩).run P w=.ok (.value x) w∧R g w v x:=by
 cases op<;>simp [okOp] at hok
 rename_i p' t o1 o2 t2
 obtain ⟨⟨rfl,h2⟩,h3⟩:=hok
 simp only [opv] at h
 obtain ⟨z,hz,hR⟩:=binop_sound (P:=P) (t:=t) (R_okX hm h2) (R_okX hm h3) h
 refine ⟨z,?_,hR⟩
 have hg:(eqGuard p' t o1 o2 (a.eval o1) (a.eval o2)).run P w=.ok () w:=by
  apply run_eqGuard_plain
  unfold binop at h
  split at h
  ·rename_i hx hy
   have:=R_int (hx ▸ R_okX hm h2:R g w (.int _ _) (a.eval o1))
   rw [this];simp
  ·rename_i hx hy
   obtain ⟨s1,e1,_⟩:=R_str (hx ▸ R_okX hm h2:R g w (.str _) (a.eval o1))
   rw [e1];simp
  ·simp at h
 exact exec_of_value (do eqGuard p' t o1 o2 (a.eval o1) (a.eval o2);binOp p' t (a.eval o1) (a.eval o2)) rfl (by simp only [Sem.run_bind,hg,Result.andThen_ok,hz])
theorem s_be (hm:RT g w m a) {p:Bool} {x y:X} (hok:okOp P op (.be p x y)=true) (h:opv hp m (.be p x y)=some v):∃ x,(execOp a.eval ⟨dst,op,ty,pos,aft,gd⟩).run P w=.ok (.value x) w∧R g w v x:=by
 cases op<;>simp [okOp] at hok
 rename_i p' t o1 o2 t2
 obtain ⟨⟨⟨rfl,h2⟩,h3⟩,h4⟩:=hok
 obtain ⟨d,hd,hp⟩:=desc_of h4
 cases d<;>simp [isBool] at hp
 simp only [opv] at h
 split at h
 ·rename_i b1 b2 hx hy
  have r1:=R_bool (hx ▸ R_okX hm h2:R g w (.bool b1) (a.eval o1))
  have r2:=R_bool (hy ▸ R_okX hm h3:R g w (.bool b2) (a.eval o2))
  simp only [Option.some.injEq] at h;subst h
  have hg:∀ p,(eqGuard p t o1 o2 (a.eval o1) (a.eval o2)).run P w=.ok () w:=fun p=>by
   apply run_eqGuard_plain;rw [r1];simp
  refine ⟨_,?_,R.bool _⟩
  cases p
  ·exact exec_of_value (do eqGuard .eql t o1 o2 (a.eval o1) (a.eval o2);binOp .eql t (a.eval o1) (a.eval o2)) rfl (by simp only [Sem.run_bind,hg,Result.andThen_ok];rw [r1,r2,run_binOp_eql_bool hd];rfl)
  ·exact exec_of_value (do eqGuard .neq t o1 o2 (a.eval o1) (a.eval o2);binOp .neq t (a.eval o1) (a.eval o2)) rfl (by simp only [Sem.run_bind,hg,Result.andThen_ok];rw [r1,r2,run_binOp_neq_bool hd];rfl)
 ·simp at h
theorem eqCell_sound {k:Nat} {x y:FV} {vx vy:Value} {e:Bool} (hx:R g w x vx) (hy:R g w y vy) (h:eqCell k x y=some e) {t:TypeId} {d:TypeDesc} (hd:P.underlying t=some d) (hk:isKd k d=true) (n:Nat) :
  (Op.equalIn (n + 1) t vx vy).run P w=.ok e w:=by
 unfold eqCell at h
 split at h
 ·obtain ⟨rfl,h2⟩:=chk_some h
  simp only [Option.some.injEq] at h2;subst h2
  rw [R_int hx,R_int hy]
  cases d<;>simp [isKd] at hk
  exact run_equalIn_int w n t _ _ _ _ hd
 ·simp only [Option.some.injEq] at h;subst h
  obtain ⟨s,rfl,rfl⟩:=R_str hx
  obtain ⟨s2,rfl,rfl⟩:=R_str hy
  cases d<;>simp [isKd] at hk
  rw [run_equalIn_string w n t _ _ hd,toList_eq,toList_eq]
 ·simp only [Option.some.injEq] at h;subst h
  rw [R_bool hx,R_bool hy]
  cases d<;>simp [isKd] at hk
  exact run_equalIn_bool' w n t _ _ hd
 ·simp at h
theorem eqCells_sound (n:Nat) (xs ys:Array Value):∀ (fs:List Field) (ks:List Nat) (i:Nat) (a b:List FV) (va vb:List Value) (e:Bool),okEqF P i fs ks=true→xs.toList.drop i=va→ys.toList.drop i=vb→RL g w a va→RL g w b vb→eqCells ks a b=some e →
  (Op.eqFields (n + 1) xs ys fs).run P w=.ok e w:=by
 intro fs
 induction fs with
 |nil =>
  intro ks i a b va vb e hok _ _ _ _ h
  cases ks with
  |cons=>simp [okEqF] at hok
  |nil =>
   cases a<;>cases b<;>simp [eqCells] at h
   subst h
   simp [Op.eqFields]
 |cons f fs ih =>
  intro ks i a b va vb e hok hva hvb ra rb h
  cases ks with
  |nil=>simp [okEqF] at hok
  |cons k ks =>
   simp only [okEqF,Bool.and_eq_true,bne_iff_ne,beq_iff_eq] at hok
   obtain ⟨⟨⟨h1,h2⟩,h3⟩,h4⟩:=hok
   cases ra with
   |nil=>simp [eqCells] at h
   |cons x vx a va hx ra =>
    cases rb with
    |nil=>simp [eqCells] at h
    |cons y vy b vb hy rb =>
     simp only [eqCells] at h
     obtain ⟨e1,q1,h⟩:=bnd_some h
     obtain ⟨e2,q2,h⟩:=bnd_some h
     simp only [Option.some.injEq] at h
     subst h
     obtain ⟨d,hd,hk⟩:=desc_of h3
     have hag:(isAgg f.type).run P w=.ok false w:=by
      rw [run_isAgg _ _ (by rw [hd];rfl)]
      congr 1
      unfold isAggB
      rw [hd]
      cases d<;>simp [isKd] at hk<;>rfl
     have part1:∀ (zs:Array Value) (v:Value) (r:List Value),zs.toList.drop i=v::r→(part f.type zs f.offset).run P w=.ok v w:=by
      intro zs v r hz
      have:zs[i]? = some v:=by
       rw [← Array.getElem?_toList]
       have:=congrArg (fun l=>l[0]?) hz
       simpa [List.getElem?_drop] using this
      simp only [part,Sem.run_bind,hag,Result.andThen_ok,Bool.false_eq_true,if_false,h2,this,Sem.run_pure]
     have next:∀ (zs:Array Value) (v:Value) (r:List Value),zs.toList.drop i=v::r→zs.toList.drop (i + 1)=r:=by
      intro zs v r hz
      have:=congrArg (List.drop 1) hz
      simpa [List.drop_drop] using this
     have hrest:=ih ks (i + 1) a b va vb e2 h4 (next _ _ _ hva) (next _ _ _ hvb) ra rb q2
     simp only [Op.eqFields,h1,ne_eq,not_false_eq_true,if_true,Sem.run_bind,part1 _ _ _ hva,part1 _ _ _ hvb,Result.andThen_ok,eqCell_sound hx hy q1 hd hk n]
     cases e1
     ·simp
     ·simpa using hrest
theorem s_eq (hm:RT g w m a) {neg:Bool} {ks:List Nat} {x y:X} (hok:okOp P op (.eq neg ks x y)=true) (h:opv hp m (.eq neg ks x y)=some v):∃ x,(execOp a.eval ⟨dst,op,ty,pos,aft,gd⟩).run P w=.ok (.value x) w∧R g w v x:=by
 cases op<;>simp only [okOp,Bool.false_eq_true] at hok
 rename_i p t x' y' yt
 simp only [Bool.and_eq_true,decide_eq_true_eq,Bool.not_eq_true'] at hok
 obtain ⟨⟨⟨⟨⟨h1,h2⟩,h3⟩,h4⟩,h5⟩,h6⟩:=hok
 have rx:=R_okX hm h2
 have ry:=R_okX hm h3
 simp only [opv] at h
 split at h
 ·rename_i xs ys e1 e2
  rw [e1] at rx
  rw [e2] at ry
  obtain ⟨va,f1,f2⟩:=R_agg rx
  obtain ⟨vb,f3,f4⟩:=R_agg ry
  obtain ⟨e,q1,q2⟩:=bnd_some h
  simp only [Option.some.injEq] at q2;subst q2
  split at h6
  ·rename_i fs hu
   have hfs:P.fieldsOf t=fs:=by simp [Program.fieldsOf,hu]
   have hrun:=eqCells_sound (P:=P) 9998 va.toArray vb.toArray fs.toList ks 0 xs ys va vb e h6 (by simp) (by simp) f2 f4 q1
   have heq:(Op.equalIn 10000 t (.agg va.toArray) (.agg vb.toArray)).run P w=.ok e w:=by
    rw [show (10000:Nat)=9999 + 1 from rfl,run_equalIn_struct w 9999 t _ _ (by rw [hfs];exact hu) h5,hfs]
    exact hrun
   refine ⟨.bool (if neg=true then !e else e),?_,.bool _⟩
   refine exec_of_value (do eqGuard p t x' y' (a.eval x') (a.eval y');binOp p t (a.eval x') (a.eval y')) rfl ?_
   rw [f1,f3]
   simp only [Sem.run_bind,run_eqGuard_agg w p t x' y' _ _ h4,Result.andThen_ok]
   subst h1
   cases neg
   ·simp only [Bool.false_eq_true,if_false,run_eql_struct,heq,Result.andThen_ok]
   ·simp only [if_true,run_neq_struct,heq,Result.andThen_ok]
  ·simp at h6
 ·simp at h
theorem s_un (hm:RT g w m a) {p:UnOp} {x:X} (hok:okOp P op (.un p x)=true) (h:opv hp m (.un p x)=some v):∃ x,(execOp a.eval ⟨dst,op,ty,pos,aft,gd⟩).run P w=.ok (.value x) w∧R g w v x:=by
 cases op<;>simp [okOp] at hok
 obtain ⟨rfl,h2⟩:=hok
 simp only [opv] at h
 obtain ⟨z,hz,hR⟩:=unop_sound (P:=P) (R_okX hm h2) h
 exact ⟨z,exec_of_value (Op.unary _ _) rfl hz,hR⟩
theorem s_ix (hm:RT g w m a) {x y:X} (hok:okOp P op (.ix x y)=true) (h:opv hp m (.ix x y)=some v):∃ x,(execOp a.eval ⟨dst,op,ty,pos,aft,gd⟩).run P w=.ok (.value x) w∧R g w v x:=by
 cases op<;>simp [okOp] at hok
 rename_i t o1 o2
 obtain ⟨⟨h1,h2⟩,h3⟩:=hok
 obtain ⟨d,hd,hp⟩:=desc_of h3
 cases d<;>simp [isStr] at hp
 simp only [opv] at h
 split at h
 ·rename_i s k n hx hy
  obtain ⟨s',r1,rfl⟩:=R_str (hx ▸ R_okX hm h1:R g w (.str s) (a.eval o1))
  have r2:=R_int (hy ▸ R_okX hm h2:R g w (.int k n) (a.eval o2))
  obtain ⟨⟨h4,h5⟩,h6⟩:=chk_some h
  simp only [Option.some.injEq] at h6;subst h6
  have hlt:n.toNat < s'.size:=by
   have:(s'.data.toList.length:Int)=s'.size:=rfl
   omega
  have e:s'[n.toNat]? = some s'[n.toNat]:=by simp [hlt]
  have e2:s'.data.toList.getD n.toNat 0=s'[n.toNat]:=by
   rw [List.getD_eq_getElem?_getD,List.getElem?_eq_getElem (by simpa using hlt)]
   rfl
  refine ⟨_,exec_of_value (Instr.index t (a.eval o1) (a.eval o2)) rfl (z:=.int .u8 s'[n.toNat].toNat) (w':=w) ?_,?_⟩
  ·rw [r1,r2]
   simp only [Instr.index,asIntOf,underlying,hd,h4,e,Sem.run_bind,Sem.run_pure,Result.andThen_ok,run_program,if_true]
  ·rw [e2];exact .int _ _
 ·simp at h
end
end
end Go.FI
