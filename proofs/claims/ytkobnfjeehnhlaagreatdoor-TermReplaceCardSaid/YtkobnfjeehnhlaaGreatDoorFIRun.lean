/- One operation of a region,in the machine. -/
import Derived.Test.YtkobnfjeehnhlaaGreatDoorFIMap
import Derived.Test.YtkobnfjeehnhlaaGreatDoorFIOq
import Derived.CallsIn
import Derived.OrdersIn
set_option linter.all false
namespace Go.FI
open Go.RowKit
variable [Sys]
structure Nx (B:Nat) (w0:World) (g g':Gh) (h':Heap) (w w':World):Prop where
 inv:Inv B w0 g' h' w'
 le:GLe g g' w w'
 z:∀ b,g'.Z b→g.Z b ∨ B ≤ b
 sz:w.heap.size ≤ w'.heap.size
theorem Nx.trans {B:Nat} {w0:World} {g g1 g2:Gh} {h1 h2:Heap} {w w1 w2:World} (a:Nx B w0 g g1 h1 w w1) (b:Nx B w0 g1 g2 h2 w1 w2):Nx B w0 g g2 h2 w w2 :=
 ⟨b.inv,a.le.trans b.le,fun k hk=>by
  rcases b.z k hk with h | h
  ·exact a.z k h
  ·exact .inr h,Nat.le_trans a.sz b.sz⟩
theorem Nx.refl {B:Nat} {w0:World} {g:Gh} {h:Heap} {w:World} (hI:Inv B w0 g h w):Nx B w0 g g h w w:=⟨hI,GLe.refl _ _,fun _ h=>.inl h,Nat.le_refl _⟩
def KNew (g g':Gh) (h h':Heap) (N:Nat→Prop):Prop:=∀ i,¬ N i→g.κ i=none→g'.κ i=none∧hget h' i=hget h i
def Fresh (h:Heap) (nx:Nat):Prop:=∀ i,nx ≤ i→hget h i=none
def New (h h':Heap) (nx nx':Nat):Prop:=nx ≤ nx'∧∀ i,hget h i=none→(i < nx ∨ nx' ≤ i)→hget h' i=none
theorem New.refl (h:Heap) (nx:Nat):New h h nx nx:=⟨Nat.le_refl _,fun _ h _=>h⟩
theorem New.fresh {h h':Heap} {nx nx':Nat} (hn:New h h' nx nx') (hf:Fresh h nx):Fresh h' nx':=fun i hi=>hn.2 i (hf i (Nat.le_trans hn.1 hi)) (.inr hi)
def entered (P:Program) (f:Nat):Bool :=
 match P.funcs[f]? with
 |some fn => fn.body.isSome && !(fn.name == "runtime.NumGoroutine")
 |none=>false
def RoundW (P : Program) (l : Nat) (f : FuncId) (tmps : Array Value) (assign body : Code) (w : World) (R : Ending → World → Prop) : Prop :=
  ∀ (c : Frame) (cs : List Frame), ∃ e w', R e w' ∧ Comes P (lone (Frame.round l f tmps assign body .normal) (c :: cs) w)
    (match e with
     | .returned v => lone (c.finish v) cs w'
     | .panicked chain => lone (c.raise chain) cs w'
     | .outgrown => lone c cs w') e
structure CalOk (P:Program) (cal:Call):Prop where
 new:∀ f args h nx v h' nx',cal f args h nx=some (v,h',nx')→Fresh h nx→New h h' nx nx'
 fn:∀ f args h nx v h' nx',cal f args h nx=some (v,h',nx')→f < RB→entered P f=true ∧
  ∀ B w0 g w xs,Inv B w0 g h w→GlOk g w→RL g w args xs→Fresh h nx →
   Calls P f xs.toArray w fun e w'=>∃ x g',e=.returned x∧R g' w' v x∧Nx B w0 g g' h' w w'∧KNew g g' h h' (fun i=>nx ≤ i∧i < nx')
 rd:∀ f id caps args h nx v h' nx',cal f (.yl f id caps::args) h nx=some (v,h',nx')→RB ≤ f →
  ∀ B w0 g w y xs,Inv B w0 g h w→GlOk g w→R g w (.yl f id caps) y→RL g w args xs→Fresh h nx →
   ∃ b fn tmps as bo,y=.func (.yield b) #[] #[]∧(Instr.yield b xs.toArray).run P w=.ok (.round b fn tmps as bo) w ∧
    RoundW P b fn tmps as bo w fun e w'=>∃ x g',e=.returned x∧R g' w' v x∧Nx B w0 g g' h' w w'∧KNew g g' h h' (fun i=>nx ≤ i∧i < nx')
def EndR (g:Gh) (w:World) (v:FV) (e:Ending):Prop:=(∃ x,e=.returned x∧R g w v x) ∨ ∃ u x,v=.pan u∧e=.panicked [{ v:=x,recovered:=false }]∧R g w u x
structure CalOkP (P:Program) (cal:Call):Prop where
 new:∀ f args h nx v h' nx',cal f args h nx=some (v,h',nx')→Fresh h nx→New h h' nx nx'
 fn:∀ f args h nx v h' nx',cal f args h nx=some (v,h',nx')→f < RB→entered P f=true ∧
  ∀ B w0 g w xs,Inv B w0 g h w→GlOk g w→RL g w args xs→Fresh h nx →
   Calls P f xs.toArray w fun e w'=>∃ g',EndR g' w' v e∧Nx B w0 g g' h' w w'∧KNew g g' h h' (fun i=>nx ≤ i∧i < nx')
 rd:∀ f id caps args h nx v h' nx',cal f (.yl f id caps::args) h nx=some (v,h',nx')→RB ≤ f →
  ∀ B w0 g w y xs,Inv B w0 g h w→GlOk g w→R g w (.yl f id caps) y→RL g w args xs→Fresh h nx →
   ∃ b fn tmps as bo,y=.func (.yield b) #[] #[]∧(Instr.yield b xs.toArray).run P w=.ok (.round b fn tmps as bo) w ∧
    RoundW P b fn tmps as bo w fun e w'=>∃ x g',e=.returned x∧R g' w' v x∧Nx B w0 g g' h' w w'∧KNew g g' h h' (fun i=>nx ≤ i∧i < nx')
theorem np_some {cal:Call} {f nx nx':Nat} {args:List FV} {h h':Heap} {v:FV} (hv:np cal f args h nx=some (v,h',nx')):cal f args h nx=some (v,h',nx')∧isPan v=false:=by
 unfold np at hv
 obtain ⟨⟨v1,h1,nx1⟩,k1,hv⟩:=bnd_some hv
 obtain ⟨k2,hv⟩:=chk_some hv
 simp only [Option.some.injEq,Prod.mk.injEq] at hv
 obtain ⟨rfl,rfl,rfl⟩:=hv
 exact ⟨k1,k2⟩
theorem CalOkP.np {P:Program} {cal:Call} (hc:CalOkP P cal):CalOk P (FI.np cal):=by
 refine ⟨fun f args h nx v h' nx' hv hf=>hc.new f args h nx v h' nx' (np_some hv).1 hf,fun f args h nx v h' nx' hv hlt=>?_,fun f id caps args h nx v h' nx' hv hge=>hc.rd f id caps args h nx v h' nx' (np_some hv).1 hge⟩
 obtain ⟨k1,k2⟩:=np_some hv
 obtain ⟨e1,e2⟩:=hc.fn f args h nx v h' nx' k1 hlt
 refine ⟨e1,fun B w0 g w xs hI hgl hx hf cs=>?_⟩
 obtain ⟨e,w',fr,⟨g',hr,hn,hk⟩,h3⟩:=e2 B w0 g w xs hI hgl hx hf cs
 rcases hr with ⟨x,rfl,hr⟩ | ⟨u,x,rfl,_⟩
 ·exact ⟨_,w',fr,⟨x,g',rfl,hr,hn,hk⟩,h3⟩
 ·simp [isPan] at k2
def fb (r:Option Nat):Fence:={ Fence.wide with round:=r }
theorem callsIn_fb {r:Option Nat} {n:Nat} {P:Program} {f:FuncId} {args:Array Value} {w:World} {R:Ending→World→Prop} (h:Calls P f args w R):CallsIn (fb r) n P f args w R :=
 ⟨trivial,fun cs _=>let ⟨e,w',fr,r,s,x⟩:=h cs;⟨e,w',fr,r,comesIn_wide.2 s,x⟩⟩
theorem roundIn_fb {r:Option Nat} {n:Nat} {P:Program} {l:Nat} {f:FuncId} {tmps:Array Value} {assign body:Code} {w:World} {R:Ending→World→Prop} (h:RoundW P l f tmps assign body w R):RoundIn (fb r) n P l f tmps assign body w R :=
 ⟨trivial,fun c cs _=>let ⟨e,w',h1,h2⟩:=h c cs;⟨e,w',h1,comesIn_wide.2 h2⟩⟩
theorem run_callFunc {P:Program} {f:Nat} (he:entered P f=true) (args:Array Value) (w:World):(callFunc f args).run P w=.ok (.enter f args) w:=by
 unfold entered at he
 split at he
 ·rename_i fn hf
  simp only [Bool.and_eq_true,Bool.not_eq_true'] at he
  have h1 : ¬ fn.name = "runtime.NumGoroutine" := by simpa using he.2
  have h2:¬ fn.body=none:=fun e=>by simp [e] at he
  simp [callFunc,hf,h1,h2]
 ·simp at he
def okO (P:Program) (op:Op):O→Bool
 |.cl f as=>match op with
  |.call ⟨.value (.func f'),args,_⟩=>f' == f && decide (f < RB) && okXs args.toList as
  |_=>false
 |.cw f as=>match op with
  |.call ⟨.value f',args,_⟩=>okX f' f && okXs args.toList as
  |_=>false
 |.ap es by_ x y=>okEff P op (.ap es by_ x y)
 |.st sz x v=>okEff P op (.st sz x v)
 |.lk kt z ok x k=>okMap P op (.lk kt z ok x k)
 |.mu kt x k v=>okMap P op (.mu kt x k v)
 |.dl kt x k=>okMap P op (.dl kt x k)
 |.bx es x=>okNew P op (.bx es x)
 |.al es z=>okNew P op (.al es z)
 |.bs es n z ps=>okNew P op (.bs es n z ps)
 |.ms es z l c=>okNew P op (.ms es z l c)
 |.nl es=>okNew P op (.nl es)
 |.mm=>okNew P op .mm
 |.rs x=>okNew P op (.rs x)
 |.ns x=>okNs op (.ns x)
 |o=>okOp P op o
theorem okO_defer {P:Program} {op:Op} {o:O} (h:okO P op o=true):∀ c,op ≠ .defer c:=by
 intro c e
 subst e
 cases o<;>simp [okO,okOp,okEff,okMap,okNew,okNs] at h
section
variable {g g':Gh} {w w':World} {P:Program} {B:Nat} {w0:World} {h h':Heap} {a:Act} {m:Tm} {dst:Option Tmp} {op:Op} {ty:TypeId} {pos:String} {aft:Array Edge} {gd:Option (Nat × Bool)} {v:FV}
 {r:Option Nat} {n:Nat} {K:Act→World→Prop} {Q:Exit→Act→World→Prop} {o:Oper}
theorem wp_yields (hd:∀ c,o.op ≠ .defer c) (hy:Yields P g w a o v) (hK:∀ x,R g w v x→K (a.put o.dst x) w):o.wpIn (fb r) n P a w K Q:=by
 obtain ⟨x,hx,hr⟩:=hy
 refine ⟨fun _ _=>trivial,?_⟩
 rw [Oper.semAt_eq _ _ _ hd,hx]
 exact hK x hr
theorem wp_does {N:Nat→Prop} (hI:Inv B w0 g h w) (hd:∀ c,o.op ≠ .defer c) (hy:Does P B w0 g h w a o v h' N) (hK:∀ g' w' x,R g' w' v x→Nx B w0 g g' h' w w'→KNew g g' h h' N→K (a.put o.dst x) w'):o.wpIn (fb r) n P a w K Q:=by
 obtain ⟨g',w',q,x,hx,hq,hr,h1,h2,h3,h4,h5⟩:=hy
 refine ⟨fun _ _=>trivial,?_⟩
 rw [Oper.semAt_eq _ _ _ hd,hx]
 rcases hq with rfl | ⟨rfl,rfl⟩
 ·exact hK g' w' x hr ⟨h1,h2,fun b hb=>(h3 b hb).imp id (Nat.le_trans hI.size),h4⟩ h5
 ·exact hK g' w' undef hr ⟨h1,h2,fun b hb=>(h3 b hb).imp id (Nat.le_trans hI.size),h4⟩ h5
theorem opv_sound (hI:Inv B w0 g h w) (hm:RT g w m a) {o:O} (hok:okOp P op o=true) (hv:opv h m o=some v):Yields P g w a ⟨dst,op,ty,pos,aft,gd⟩ v:=by
 cases o<;>first
  |(simp [okOp] at hok;done)
  |exact s_mv hm hok hv
  |exact s_pk hm hok hv
  |exact s_bo hm hok hv
  |exact s_be hm hok hv
  |exact s_eq hm hok hv
  |exact s_un hm hok hv
  |exact s_ix hm hok hv
  |exact s_ln hI hm hok hv
  |exact s_mx hm hok hv
  |exact s_mn hm hok hv
  |exact s_cv hm hok hv
  |exact s_ld hI hm hok hv
  |exact s_fa hm hok hv
  |exact s_fd hm hok hv
  |exact s_ia hm hok hv
  |exact s_aa hm hok hv
  |exact s_nc hm hok hv
  |exact s_ex hm hok hv
  |exact s_sl hm hok hv
  |exact s_bd hm hok hv
  |exact s_mf hm hok hv
  |exact s_mi hm hok hv
  |exact s_xs hm hok hv
  |exact s_sn hm hok hv
  |exact s_ib hm hok hv
  |exact s_isn hm hok hv
  |exact s_ta hm hok hv
  |exact s_xa hm hok hv
  |first | exact s_cs hI hm hok hv | (simp [opv] at hv)
theorem opn_sound (hI:Inv B w0 g h w) (hm:RT g w m a) {o:O} {id:Nat} (hn:g.κ id=none) {ob:Obj} (hq:∀ i,hget h' i=if i=id then some ob else hget h i) (hok:okNew P op o=true) (hv:opn m id o=some (ob,v)) :
  Does P B w0 g h w a ⟨dst,op,ty,pos,aft,gd⟩ v h' (· = id):=by
 cases o<;>first
  |(simp [okNew] at hok;done)
  |exact d_bx hI hm hn hok hq hv
  |exact d_al hI hn hok hq hv
  |exact d_bs hI hm hn hok hq hv
  |exact d_ms hI hm hn hok hq hv
  |exact d_nl hI hn hok hq hv
  |exact d_mm hI hn hok hq hv
  |exact d_rs hI hm hn hok hq hv
theorem e_ap (hI:Inv B w0 g h w) (hm:RT g w m a) {es by_ id:Nat} {x y:X} (hn:hget h id=none) (hok:okEff P op (.ap es by_ x y)=true) (hh:append h id es by_ (ev m x) (ev m y)=some (v,h')) :
  Does P B w0 g h w a ⟨dst,op,ty,pos,aft,gd⟩ v h' (· = id):=by
 cases op<;>simp only [okEff,Bool.false_eq_true] at hok
 rename_i c
 obtain ⟨cal,args,ts⟩:=c
 cases cal<;>first | (simp at hok;done) | skip
 rename_i bi
 cases bi<;>first | (simp at hok;done) | skip
 simp only [Bool.and_eq_true] at hok
 obtain ⟨h1,h2⟩:=hok
 obtain ⟨o1,o2,ha,hx1,hk1⟩:=okXs_two h1
 have ea:=arr_of_toList ha;subst ea
 split at h2
 ·rename_i t t2 hts
  have et:=arr_of_toList hts;subst et
  simp only [Bool.and_eq_true] at h2
  obtain ⟨h3,h4⟩:=h2
  obtain ⟨d,hd,hp⟩:=desc_of h3
  cases d<;>simp only [elemOk,Bool.false_eq_true] at hp
  rename_i e
  obtain ⟨g',w',z,k1,k2,k3,k4,k5,k6⟩:=append_sound (ty:=ty) hI (R_okX hm hx1) (R_okX hm hk1) hn hd h4 hp hh
  refine ⟨g',w',_,z,exec_builtin (Builtin.append_ #[t,t2] ty #[a.eval o1,a.eval o2]) (fun _=>by rw [map_two];rfl) k1,.inl rfl,k2,k3,k4,k5,k6⟩
 ·simp at h2
theorem exec_cl {f:Nat} {args:Array Operand} {ts:Array TypeId} {as:List X} {cs:List FV} {caps:List Value} (hm:RT g w m a) (he:entered P f=true) {fo:Operand} (hf:a.eval fo=.func (.func f) #[] caps.toArray) (hc:RL g w cs caps)
  (ho:okXs args.toList as=true) :
  ∃ xs,(execOp a.eval ⟨dst,.call ⟨.value fo,args,ts⟩,ty,pos,aft,gd⟩).run P w=.ok (.enter f xs.toArray) w∧RL g w (evs m as ++ cs) xs:=by
 refine ⟨args.toList.map a.eval ++ caps,?_,(RL_okXs hm ho).append hc⟩
 have e:(#[] ++ args.map a.eval) ++ caps.toArray=(args.toList.map a.eval ++ caps).toArray:=by
  apply Array.toList_inj.1;simp
 simp only [execOp,resolve,hf,Deferred.ofValue,pure_bind,invoke]
 rw [e,run_callFunc he]
theorem wp_call {cal:Call} {f nx nx':Nat} {args:List FV} (hcal:CalOk P cal) (hlt:f < RB) (hgl:GlOk g w) (hv:cal f args h nx=some (v,h',nx')) (hI:Inv B w0 g h w) (hf:Fresh h nx)
  (hx:entered P f=true→∃ xs,(execOp a.eval o).run P w=.ok (.enter f xs.toArray) w∧RL g w args xs) (hd:∀ c,o.op ≠ .defer c)
  (hK:∀ g' w' x,R g' w' v x→Nx B w0 g g' h' w w'→KNew g g' h h' (fun i=>nx ≤ i∧i < nx')→K (a.put o.dst x) w'):o.wpIn (fb r) n P a w K Q:=by
 obtain ⟨h1,h3⟩:=hcal.fn f args h nx v h' nx' hv hlt
 obtain ⟨xs,h4,h5⟩:=hx h1
 refine ⟨fun _ _=>trivial,?_⟩
 rw [Oper.semAt_eq _ _ _ hd,h4,Oper.uponIn_enter]
 refine ⟨fun hh=>by simp [fb,Fence.wide] at hh,callsIn_fb ((h3 B w0 g w xs hI hgl h5 hf).mono ?_)⟩
 rintro e w' ⟨x,g',rfl,hr,hn,hk⟩
 exact hK g' w' x hr hn hk
theorem RoundW.mono {l:Nat} {f:FuncId} {tmps:Array Value} {assign body:Code} {R R':Ending→World→Prop} (hr:RoundW P l f tmps assign body w R) (hi:∀ e w',R e w'→R' e w'):RoundW P l f tmps assign body w R' :=
 fun c cs=>let ⟨e,w',h1,h2⟩:=hr c cs;⟨e,w',hi _ _ h1,h2⟩
theorem exec_yl {b:Nat} {args:Array Operand} {ts:Array TypeId} {fo:Operand} (hf:a.eval fo=.func (.yield b) #[] #[]) :
  (execOp a.eval ⟨dst,.call ⟨.value fo,args,ts⟩,ty,pos,aft,gd⟩).run P w=(Instr.yield b (args.toList.map a.eval).toArray).run P w:=by
 have e:(#[] ++ args.map a.eval)=(args.toList.map a.eval).toArray:=by
  apply Array.toList_inj.1;simp
 simp only [execOp,resolve,hf,Deferred.ofValue,pure_bind,invoke]
 rw [e]
theorem wp_yield {cal:Call} {f id nx nx':Nat} {caps args:List FV} {args':Array Operand} {ts:Array TypeId} {fo:Operand} {xs:List X} (hcal:CalOk P cal) (hv:cal f (.yl f id caps::args) h nx=some (v,h',nx')) (hI:Inv B w0 g h w) (hm:RT g w m a) (hf:Fresh h nx)
  (hy:R g w (.yl f id caps) (a.eval fo)) (he:evs m xs=args) (ho:okXs args'.toList xs=true)
  (hK:∀ g' w' x,R g' w' v x→Nx B w0 g g' h' w w'→KNew g g' h h' (fun i=>nx ≤ i∧i < nx')→K (a.put dst x) w'):(⟨dst,.call ⟨.value fo,args',ts⟩,ty,pos,aft,gd⟩:Oper).wpIn (fb r) n P a w K Q:=by
 have hge:RB ≤ f:=by generalize a.eval fo=q at hy;cases hy;assumption
 have hxs:=RL_okXs hm ho
 rw [he] at hxs
 obtain ⟨b,fn,tmps,as_,bo,e1,e2,e3⟩:=hcal.rd f id caps args h nx v h' nx' hv hge B w0 g w _ _ hI hm.gl hy hxs hf
 refine ⟨fun _ _=>trivial,?_⟩
 rw [Oper.semAt_eq _ _ _ (by intro c;simp),exec_yl e1,e2,Oper.uponIn_round]
 refine ⟨fun hh=>by simp [fb,Fence.wide] at hh,roundIn_fb (e3.mono ?_)⟩
 rintro e w' ⟨x,g',rfl,hr,hn,hk⟩
 exact hK g' w' x hr hn hk
theorem hset_none {id:Nat} {ob q:Obj} (hs:hget h id=some q):∀ i,hget h i=none→hget (hset h id ob) i=none:=by
 intro i hi
 rw [hget_hset hs]
 split
 ·rename_i e;subst e;rw [hi] at hs;cases hs
 ·exact hi
theorem storev_new {sz:Nat} {x y:FV} (hh:storev h sz y x=some h'):∀ i,hget h i=none→hget h' i=none:=by
 unfold storev at hh
 split at hh
 ·split at hh
  ·rename_i hg
   obtain ⟨_,hh⟩:=chk_some hh
   obtain ⟨e,_,hh⟩:=bnd_some hh
   obtain ⟨_,hh⟩:=chk_some hh
   simp only [Option.some.injEq] at hh;subst hh
   exact hset_none hg
  ·simp at hh
 ·simp at hh
theorem append_new {id es by_:Nat} {x y:FV} (hh:append h id es by_ x y=some (v,h')):∀ i,hget h i=none→i ≠ id→hget h' i=none:=by
 unfold append at hh
 obtain ⟨ys,_,hh⟩:=bnd_some hh
 obtain ⟨_,hh⟩:=chk_some hh
 intro i hi hne
 split at hh
 ·obtain ⟨_,hh⟩:=chk_some hh
  simp only [Option.some.injEq,Prod.mk.injEq] at hh
  obtain ⟨_,rfl⟩:=hh
  rw [hget_cons,if_neg hne,hi]
 ·split at hh
  ·rename_i hg
   obtain ⟨_,hh⟩:=chk_some hh
   split at hh
   ·simp only [Option.some.injEq,Prod.mk.injEq] at hh
    obtain ⟨_,rfl⟩:=hh
    exact hi
   ·split at hh
    ·simp only [Option.some.injEq,Prod.mk.injEq] at hh
     obtain ⟨_,rfl⟩:=hh
     exact hset_none hg i hi
    ·obtain ⟨_,hh⟩:=chk_some hh
     simp only [Option.some.injEq,Prod.mk.injEq] at hh
     obtain ⟨_,rfl⟩:=hh
     exact hset_none hg i hi
  ·simp at hh
 ·simp at hh
theorem opg_new {cal:Call} (hcal:CalOk P cal) {id nx nx':Nat} {gg:G} (hn:hget h id=none) (hf:Fresh h nx) (hv:opg cal id gg m h nx=some (v,h',nx')) :
  nx ≤ nx'∧∀ i,hget h i=none→i ≠ id→(i < nx ∨ nx' ≤ i)→hget h' i=none:=by
 have two:∀ {ob:Obj},nx ≤ nx∧∀ i,hget h i=none→i ≠ id→(i < nx ∨ nx ≤ i)→hget ((id,ob)::h) i=none:=fun {ob} =>
  ⟨Nat.le_refl _,fun i hi hne _=>by rw [hget_cons,if_neg hne,hi]⟩
 unfold opg at hv
 split at hv
 ·obtain ⟨h2,k1,hv⟩:=bnd_some hv
  simp only [Option.some.injEq,Prod.mk.injEq] at hv
  obtain ⟨rfl,rfl,rfl⟩:=hv
  exact ⟨Nat.le_refl _,fun i hi _ _=>storev_new k1 i hi⟩
 ·obtain ⟨⟨v2,h2⟩,k1,hv⟩:=bnd_some hv
  simp only [Option.some.injEq,Prod.mk.injEq] at hv
  obtain ⟨rfl,rfl,rfl⟩:=hv
  exact ⟨Nat.le_refl _,fun i hi hne _=>append_new k1 i hi hne⟩
 ·obtain ⟨v2,k1,hv⟩:=bnd_some hv
  simp only [Option.some.injEq,Prod.mk.injEq] at hv
  obtain ⟨rfl,rfl,rfl⟩:=hv
  exact ⟨Nat.le_refl _,fun i hi _ _=>hi⟩
 ·split at hv
  ·split at hv
   ·rename_i hg
    obtain ⟨v2,k1,hv⟩:=bnd_some hv
    simp only [Option.some.injEq,Prod.mk.injEq] at hv
    obtain ⟨rfl,rfl,rfl⟩:=hv
    exact ⟨Nat.le_refl _,fun i hi _ _=>hset_none hg i hi⟩
   ·simp at hv
  ·simp at hv
 ·split at hv
  ·split at hv
   ·rename_i hg
    obtain ⟨v2,k1,hv⟩:=bnd_some hv
    simp only [Option.some.injEq,Prod.mk.injEq] at hv
    obtain ⟨rfl,rfl,rfl⟩:=hv
    exact ⟨Nat.le_refl _,fun i hi _ _=>hset_none hg i hi⟩
   ·simp at hv
  ·simp at hv
 ·have:=hcal.new _ _ _ _ _ _ _ hv hf
  exact ⟨this.1,fun i hi _ hx=>this.2 i hi hx⟩
 ·split at hv
  ·have:=hcal.new _ _ _ _ _ _ _ hv hf
   exact ⟨this.1,fun i hi _ hx=>this.2 i hi hx⟩
  ·have:=hcal.new _ _ _ _ _ _ _ hv hf
   exact ⟨this.1,fun i hi _ hx=>this.2 i hi hx⟩
  ·simp at hv
 iterate 7
  ·obtain ⟨⟨o2,v2⟩,k1,hv⟩:=bnd_some hv
   simp only [Option.some.injEq,Prod.mk.injEq] at hv
   obtain ⟨rfl,rfl,rfl⟩:=hv
   exact two
 ·split at hv
  ·split at hv
   ·rename_i hg
    split at hv
    ·simp only [Option.some.injEq,Prod.mk.injEq] at hv
     obtain ⟨rfl,rfl,rfl⟩:=hv
     exact ⟨Nat.le_refl _,fun i hi _ _=>hset_none hg i hi⟩
    ·simp only [Option.some.injEq,Prod.mk.injEq] at hv
     obtain ⟨rfl,rfl,rfl⟩:=hv
     exact ⟨Nat.le_refl _,fun i hi _ _=>hi⟩
   ·simp at hv
  ·simp at hv
 ·obtain ⟨v2,k1,hv⟩:=bnd_some hv
  simp only [Option.some.injEq,Prod.mk.injEq] at hv
  obtain ⟨rfl,rfl,rfl⟩:=hv
  exact ⟨Nat.le_refl _,fun i hi _ _=>hi⟩
theorem opg_sound {cal:Call} (hcal:CalOk P cal) {id nx nx':Nat} {gg:G} (hI:Inv B w0 g h w) (hm:RT g w m a) (hn:hget h id=none) (hf:Fresh h nx) (hok:okO P op gg.op=true)
  (hv:opg cal id gg m h nx=some (v,h',nx')) (hK:∀ g' w' x,R g' w' v x→Nx B w0 g g' h' w w'→KNew g g' h h' (fun i=>i=id ∨ nx ≤ i∧i < nx')→K (a.put dst x) w') :
  Oper.wpIn (fb r) n P ⟨dst,op,ty,pos,aft,gd⟩ a w K Q:=by
 have hd:=okO_defer hok
 have news:∀ (o:O),gg.op=o→okNew P op o=true→(bnd (opn m id o) fun r=>some (r.2,(id,r.1)::h,nx))=some (v,h',nx')→Oper.wpIn (fb r) n P ⟨dst,op,ty,pos,aft,gd⟩ a w K Q:=by
  intro o _ h1 h2
  obtain ⟨⟨o2,v2⟩,k1,h2⟩:=bnd_some h2
  simp only [Option.some.injEq,Prod.mk.injEq] at h2
  obtain ⟨rfl,rfl,rfl⟩:=h2
  exact wp_does hI hd (opn_sound hI hm (kNone hI hn) (hget_cons h id _) h1 k1) fun g' w' x e1 e2 e3=>hK g' w' x e1 e2 fun i hi=>e3 i fun e=>hi (.inl e)
 unfold opg at hv
 split at hv
 ·rename_i ho
  rw [ho] at hok
  obtain ⟨h2,k1,hv⟩:=bnd_some hv
  simp only [Option.some.injEq,Prod.mk.injEq] at hv
  obtain ⟨rfl,rfl,rfl⟩:=hv
  exact wp_does hI hd (e_st hI hm hok k1) fun g' w' x e1 e2 e3=>hK g' w' x e1 e2 fun i _=>e3 i (fun hf=>hf)
 ·rename_i ho
  rw [ho] at hok
  obtain ⟨⟨v2,h2⟩,k1,hv⟩:=bnd_some hv
  simp only [Option.some.injEq,Prod.mk.injEq] at hv
  obtain ⟨rfl,rfl,rfl⟩:=hv
  exact wp_does hI hd (e_ap hI hm hn hok k1) fun g' w' x e1 e2 e3=>hK g' w' x e1 e2 fun i hi=>e3 i fun e=>hi (.inl e)
 ·rename_i ho
  rw [ho] at hok
  obtain ⟨v2,k1,hv⟩:=bnd_some hv
  simp only [Option.some.injEq,Prod.mk.injEq] at hv
  obtain ⟨rfl,rfl,rfl⟩:=hv
  exact wp_yields hd (e_lk hI hm hok k1) fun x hx=>hK g w x hx (.refl hI) fun _ _ h=>⟨h,rfl⟩
 ·rename_i ho
  rw [ho] at hok
  split at hv
  ·rename_i hx
   split at hv
   ·rename_i hg
    obtain ⟨v2,k1,hv⟩:=bnd_some hv
    simp only [Option.some.injEq,Prod.mk.injEq] at hv
    obtain ⟨rfl,rfl,rfl⟩:=hv
    exact wp_does hI hd (e_mu hI hm hok hx hg k1) fun g' w' x e1 e2 e3=>hK g' w' x e1 e2 fun i _=>e3 i (fun hf=>hf)
   ·simp at hv
  ·simp at hv
 ·rename_i ho
  rw [ho] at hok
  split at hv
  ·rename_i hx
   split at hv
   ·rename_i hg
    obtain ⟨v2,k1,hv⟩:=bnd_some hv
    simp only [Option.some.injEq,Prod.mk.injEq] at hv
    obtain ⟨rfl,rfl,rfl⟩:=hv
    exact wp_does hI hd (e_dl hI hm hok hx hg k1) fun g' w' x e1 e2 e3=>hK g' w' x e1 e2 fun i _=>e3 i (fun hf=>hf)
   ·simp at hv
  ·simp at hv
 ·rename_i f as ho
  rw [ho] at hok
  simp only [okO] at hok
  split at hok
  ·rename_i f2 args2 ts2
   simp only [Bool.and_eq_true,beq_iff_eq,decide_eq_true_eq] at hok
   obtain ⟨⟨rfl,hlt⟩,h2⟩:=hok
   refine wp_call hcal hlt hm.gl hv hI hf (fun he=>?_) hd fun g' w' x e1 e2 e3=>hK g' w' x e1 e2 fun i hi=>e3 i fun e=>hi (.inr e)
   have:=exec_cl (ts:=ts2) (dst:=dst) (ty:=ty) (pos:=pos) (aft:=aft) (gd:=gd) (caps:=[]) (cs:=[]) hm he (fo:=.func _) rfl .nil h2
   simpa using this
  ·simp at hok
 ·rename_i f as ho
  rw [ho] at hok
  split at hv
  ·rename_i f' caps hx
   simp only [okO] at hok
   split at hok
   ·simp only [Bool.and_eq_true] at hok
    obtain ⟨h1,h2⟩:=hok
    have rx:=R_okX hm h1
    rw [hx] at rx
    obtain ⟨vs,e1,hlt,e2⟩:=R_fn rx
    refine wp_call hcal hlt hm.gl hv hI hf (fun he=>?_) hd fun g' w' x e1 e2 e3=>hK g' w' x e1 e2 fun i hi=>e3 i fun e=>hi (.inr e)
    exact exec_cl hm he e1 e2 h2
   ·simp at hok
  ·rename_i f' id' caps hx
   simp only [okO] at hok
   split at hok
   ·simp only [Bool.and_eq_true] at hok
    obtain ⟨h1,h2⟩:=hok
    have rx:=R_okX hm h1
    rw [hx] at rx
    exact wp_yield hcal hv hI hm hf rx rfl h2 fun g' w' x e1 e2 e3=>hK g' w' x e1 e2 fun i hi=>e3 i fun e=>hi (.inr e)
   ·simp at hok
  ·simp at hv
 all_goals rename_i ho
 ·rw [ho] at hok;exact news _ ho hok hv
 ·rw [ho] at hok;exact news _ ho hok hv
 ·rw [ho] at hok;exact news _ ho hok hv
 ·rw [ho] at hok;exact news _ ho hok hv
 ·rw [ho] at hok;exact news _ ho hok hv
 ·rw [ho] at hok;exact news _ ho hok hv
 ·rw [ho] at hok;exact news _ ho hok hv
 ·rw [ho] at hok
  split at hv
  ·rename_i hx
   split at hv
   ·rename_i hg
    obtain ⟨rfl,hD,_⟩:=e_ns (dst:=dst) (ty:=ty) (pos:=pos) (aft:=aft) (gd:=gd) hI hm hok hx hg hv
    exact wp_does hI hd hD fun g' w' x e1 e2 e3=>hK g' w' x e1 e2 fun i _=>e3 i (fun hf=>hf)
   ·simp at hv
  ·simp at hv
 ·obtain ⟨v2,k1,hv⟩:=bnd_some hv
  simp only [Option.some.injEq,Prod.mk.injEq] at hv
  obtain ⟨rfl,rfl,rfl⟩:=hv
  have hok':okOp P op gg.op=true:=by
   revert hok
   generalize gg.op=q at *
   cases q<;>simp_all [okO,opv]
  exact wp_yields hd (opv_sound hI hm hok' k1) fun x hx=>hK g w x hx (.refl hI) fun _ _ h=>⟨h,rfl⟩
end
end Go.FI
