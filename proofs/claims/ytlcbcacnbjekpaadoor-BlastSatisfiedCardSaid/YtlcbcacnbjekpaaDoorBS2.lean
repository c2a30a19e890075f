/- Parts of the proof, one behind the other. -/
import Derived.Test.YtlcbcacnbjekpaaDoorBS1
import Derived.CallsIn
import Derived.OrdersIn
import Derived.RangeFuncIn
import Derived.RangeFuncLeaves
import Derived.RangeFuncRecord
import Derived.RecoverIn
set_option linter.all false
namespace Go.FI
open Go.RowKit
variable [Sys]
structure Nx (B:Nat) (w0:World) (g g':Gh) (h':Heap) (w w':World):Prop where
 inv:Inv B w0 g' h' w'
 le:GLe g g' w w'
 z:∀ b,g'.Z b→g.Z b ∨ B ≤ b
 sz:w.heap.size ≤ w'.heap.size
theorem Nx.trans {B:Nat} {w0:World} {g g1 g2:Gh} {h1 h2:Heap} {w w1 w2:World} (a:Nx B w0 g g1 h1 w w1) (b:Nx B w0 g1 g2 h2 w1 w2):Nx B w0 g g2 h2 w w2 :=
 ⟨b.inv,a.le.trans b.le,fun k hk=>by
  rcases b.z k hk with h | h
  ·exact a.z k h
  ·exact .inr h,Nat.le_trans a.sz b.sz⟩
theorem Nx.refl {B:Nat} {w0:World} {g:Gh} {h:Heap} {w:World} (hI:Inv B w0 g h w):Nx B w0 g g h w w:=⟨hI,GLe.refl _ _,fun _ h=>.inl h,Nat.le_refl _⟩
def KNew (g g':Gh) (h h':Heap) (N:Nat→Prop):Prop:=∀ i,¬ N i→g.κ i=none→g'.κ i=none∧hget h' i=hget h i
def Fresh (h:Heap) (nx:Nat):Prop:=∀ i,nx ≤ i→hget h i=none
def New (h h':Heap) (nx nx':Nat):Prop:=nx ≤ nx'∧∀ i,hget h i=none→(i < nx ∨ nx' ≤ i)→hget h' i=none
theorem New.refl (h:Heap) (nx:Nat):New h h nx nx:=⟨Nat.le_refl _,fun _ h _=>h⟩
theorem New.fresh {h h':Heap} {nx nx':Nat} (hn:New h h' nx nx') (hf:Fresh h nx):Fresh h' nx':=fun i hi=>hn.2 i (hf i (Nat.le_trans hn.1 hi)) (.inr hi)
def entered (P:Program) (f:Nat):Bool :=
 match P.funcs[f]? with
 |some fn => fn.body.isSome && !(fn.name == "runtime.NumGoroutine")
 |none=>false
def RoundW (P : Program) (l : Nat) (f : FuncId) (tmps : Array Value) (assign body : Code) (w : World) (R : Ending → World → Prop) : Prop :=
  ∀ (c : Frame) (cs : List Frame), ∃ e w', R e w' ∧ Comes P (lone (Frame.round l f tmps assign body .normal) (c :: cs) w)
    (match e with
     | .returned v => lone (c.finish v) cs w'
     | .panicked chain => lone (c.raise chain) cs w'
     | .outgrown => lone c cs w') e
structure CalOk (P:Program) (cal:Call):Prop where
 new:∀ f args h nx v h' nx',cal f args h nx=some (v,h',nx')→Fresh h nx→New h h' nx nx'
 fn:∀ f args h nx v h' nx',cal f args h nx=some (v,h',nx')→f < RB→entered P f=true ∧
  ∀ B w0 g w xs,Inv B w0 g h w→GlOk g w→RL g w args xs→Fresh h nx →
   Calls P f xs.toArray w fun e w'=>∃ x g',e=.returned x∧R g' w' v x∧Nx B w0 g g' h' w w'∧KNew g g' h h' (fun i=>nx ≤ i∧i < nx')
 rd:∀ f id caps args h nx v h' nx',cal f (.yl f id caps::args) h nx=some (v,h',nx')→RB ≤ f →
  ∀ B w0 g w y xs,Inv B w0 g h w→GlOk g w→R g w (.yl f id caps) y→RL g w args xs→Fresh h nx →
   ∃ b fn tmps as bo,y=.func (.yield b) #[] #[]∧(Instr.yield b xs.toArray).run P w=.ok (.round b fn tmps as bo) w ∧
    RoundW P b fn tmps as bo w fun e w'=>∃ x g',e=.returned x∧R g' w' v x∧Nx B w0 g g' h' w w'∧KNew g g' h h' (fun i=>nx ≤ i∧i < nx')
 lt:∀ f args h nx v h' nx',cal f args h nx=some (v,h',nx')→f < OB
def EndR (g:Gh) (w:World) (v:FV) (e:Ending):Prop:=(∃ x,e=.returned x∧R g w v x) ∨ ∃ u x,v=.pan u∧e=.panicked [{ v:=x,recovered:=false }]∧R g w u x
structure CalOkP (P:Program) (cal:Call):Prop where
 new:∀ f args h nx v h' nx',cal f args h nx=some (v,h',nx')→Fresh h nx→New h h' nx nx'
 fn:∀ f args h nx v h' nx',cal f args h nx=some (v,h',nx')→f < RB→entered P f=true ∧
  ∀ B w0 g w xs,Inv B w0 g h w→GlOk g w→RL g w args xs→Fresh h nx →
   Calls P f xs.toArray w fun e w'=>∃ g',EndR g' w' v e∧Nx B w0 g g' h' w w'∧KNew g g' h h' (fun i=>nx ≤ i∧i < nx')
 rd:∀ f id caps args h nx v h' nx',cal f (.yl f id caps::args) h nx=some (v,h',nx')→RB ≤ f →
  ∀ B w0 g w y xs,Inv B w0 g h w→GlOk g w→R g w (.yl f id caps) y→RL g w args xs→Fresh h nx →
   ∃ b fn tmps as bo,y=.func (.yield b) #[] #[]∧(Instr.yield b xs.toArray).run P w=.ok (.round b fn tmps as bo) w ∧
    RoundW P b fn tmps as bo w fun e w'=>∃ x g',e=.returned x∧R g' w' v x∧Nx B w0 g g' h' w w'∧KNew g g' h h' (fun i=>nx ≤ i∧i < nx')
 lt:∀ f args h nx v h' nx',cal f args h nx=some (v,h',nx')→f < OB
theorem np_some {cal:Call} {f nx nx':Nat} {args:List FV} {h h':Heap} {v:FV} (hv:np cal f args h nx=some (v,h',nx')):cal f args h nx=some (v,h',nx')∧isPan v=false:=by
 unfold np at hv
 obtain ⟨⟨v1,h1,nx1⟩,k1,hv⟩:=bnd_some hv
 obtain ⟨k2,hv⟩:=chk_some hv
 simp only [Option.some.injEq,Prod.mk.injEq] at hv
 obtain ⟨rfl,rfl,rfl⟩:=hv
 exact ⟨k1,k2⟩
theorem CalOkP.np {P:Program} {cal:Call} (hc:CalOkP P cal):CalOk P (FI.np cal):=by
 refine ⟨fun f args h nx v h' nx' hv hf=>hc.new f args h nx v h' nx' (np_some hv).1 hf,fun f args h nx v h' nx' hv hlt=>?_,fun f id caps args h nx v h' nx' hv hge=>hc.rd f id caps args h nx v h' nx' (np_some hv).1 hge,fun f args h nx v h' nx' hv=>hc.lt f args h nx v h' nx' (np_some hv).1⟩
 obtain ⟨k1,k2⟩:=np_some hv
 obtain ⟨e1,e2⟩:=hc.fn f args h nx v h' nx' k1 hlt
 refine ⟨e1,fun B w0 g w xs hI hgl hx hf cs=>?_⟩
 obtain ⟨e,w',fr,⟨g',hr,hn,hk⟩,h3⟩:=e2 B w0 g w xs hI hgl hx hf cs
 rcases hr with ⟨x,rfl,hr⟩ | ⟨u,x,rfl,_⟩
 ·exact ⟨_,w',fr,⟨x,g',rfl,hr,hn,hk⟩,h3⟩
 ·simp [isPan] at k2
def fb (r:Option Nat):Fence:={ Fence.wide with round:=r }
theorem callsIn_fb {r:Option Nat} {n:Nat} {P:Program} {f:FuncId} {args:Array Value} {w:World} {R:Ending→World→Prop} (h:Calls P f args w R):CallsIn (fb r) n P f args w R :=
 ⟨trivial,fun cs _=>let ⟨e,w',fr,r,s,x⟩:=h cs;⟨e,w',fr,r,comesIn_wide.2 s,x⟩⟩
theorem roundIn_fb {r:Option Nat} {n:Nat} {P:Program} {l:Nat} {f:FuncId} {tmps:Array Value} {assign body:Code} {w:World} {R:Ending→World→Prop} (h:RoundW P l f tmps assign body w R):RoundIn (fb r) n P l f tmps assign body w R :=
 ⟨trivial,fun c cs _=>let ⟨e,w',h1,h2⟩:=h c cs;⟨e,w',h1,comesIn_wide.2 h2⟩⟩
theorem run_callFunc {P:Program} {f:Nat} (he:entered P f=true) (args:Array Value) (w:World):(callFunc f args).run P w=.ok (.enter f args) w:=by
 unfold entered at he
 split at he
 ·rename_i fn hf
  simp only [Bool.and_eq_true,Bool.not_eq_true'] at he
  have h1 : ¬ fn.name = "runtime.NumGoroutine" := by simpa using he.2
  have h2:¬ fn.body=none:=fun e=>by simp [e] at he
  simp [callFunc,hf,h1,h2]
 ·simp at he
def okO (P:Program) (op:Op):O→Bool
 |.cl f as=>match op with
  |.call ⟨.value (.func f'),args,_⟩=>f' == f && decide (f < RB) && okXs args.toList as
  |_=>false
 |.cw f as=>match op with
  |.call ⟨.value f',args,_⟩=>okX f' f && okXs args.toList as
  |_=>false
 |.ap es by_ x y=>okEff P op (.ap es by_ x y)
 |.st sz x v=>okEff P op (.st sz x v)
 |.lk kt z ok x k=>okMap P op (.lk kt z ok x k)
 |.mu kt x k v=>okMap P op (.mu kt x k v)
 |.dl kt x k=>okMap P op (.dl kt x k)
 |.bx es x=>okNew P op (.bx es x)
 |.al es z=>okNew P op (.al es z)
 |.bs es n z ps=>okNew P op (.bs es n z ps)
 |.ms es z l c=>okNew P op (.ms es z l c)
 |.nl es=>okNew P op (.nl es)
 |.mm=>okNew P op .mm
 |.rs x=>okNew P op (.rs x)
 |.ns x=>okNs op (.ns x)
 |o=>okOp P op o
theorem okO_defer {P:Program} {op:Op} {o:O} (h:okO P op o=true):∀ c,op ≠ .defer c:=by
 intro c e
 subst e
 cases o<;>simp [okO,okOp,okEff,okMap,okNew,okNs] at h
section
variable {g g':Gh} {w w':World} {P:Program} {B:Nat} {w0:World} {h h':Heap} {a:Act} {m:Tm} {dst:Option Tmp} {op:Op} {ty:TypeId} {pos:String} {aft:Array Edge} {gd:Option (Nat × Bool)} {v:FV}
 {r:Option Nat} {n:Nat} {K:Act→World→Prop} {Q:Exit→Act→World→Prop} {o:Oper}
theorem wp_yields (hd:∀ c,o.op ≠ .defer c) (hy:Yields P g w a o v) (hK:∀ x,R g w v x→K (a.put o.dst x) w):o.wpIn (fb r) n P a w K Q:=by
 obtain ⟨x,hx,hr⟩:=hy
 refine ⟨fun _ _=>trivial,?_⟩
 rw [Oper.semAt_eq _ _ _ hd,hx]
 exact hK x hr
theorem wp_does {N:Nat→Prop} (hI:Inv B w0 g h w) (hd:∀ c,o.op ≠ .defer c) (hy:Does P B w0 g h w a o v h' N) (hK:∀ g' w' x,R g' w' v x→Nx B w0 g g' h' w w'→KNew g g' h h' N→K (a.put o.dst x) w'):o.wpIn (fb r) n P a w K Q:=by
 obtain ⟨g',w',q,x,hx,hq,hr,h1,h2,h3,h4,h5⟩:=hy
 refine ⟨fun _ _=>trivial,?_⟩
 rw [Oper.semAt_eq _ _ _ hd,hx]
 rcases hq with rfl | ⟨rfl,rfl⟩
 ·exact hK g' w' x hr ⟨h1,h2,fun b hb=>(h3 b hb).imp id (Nat.le_trans hI.size),h4⟩ h5
 ·exact hK g' w' undef hr ⟨h1,h2,fun b hb=>(h3 b hb).imp id (Nat.le_trans hI.size),h4⟩ h5
theorem opv_sound (hI:Inv B w0 g h w) (hm:RT g w m a) {o:O} (hok:okOp P op o=true) (hv:opv h m o=some v):Yields P g w a ⟨dst,op,ty,pos,aft,gd⟩ v:=by
 cases o<;>first
  |(simp [okOp] at hok;done)
  |exact s_mv hm hok hv
  |exact s_pk hm hok hv
  |exact s_bo hm hok hv
  |exact s_be hm hok hv
  |exact s_eq hm hok hv
  |exact s_un hm hok hv
  |exact s_ix hm hok hv
  |exact s_ln hI hm hok hv
  |exact s_mx hm hok hv
  |exact s_mn hm hok hv
  |exact s_cv hm hok hv
  |exact s_ld hI hm hok hv
  |exact s_fa hm hok hv
  |exact s_fd hm hok hv
  |exact s_ia hm hok hv
  |exact s_aa hm hok hv
  |exact s_nc hm hok hv
  |exact s_ex hm hok hv
  |exact s_sl hm hok hv
  |exact s_bd hm hok hv
  |exact s_mf hm hok hv
  |exact s_mi hm hok hv
  |exact s_xs hm hok hv
  |exact s_sn hm hok hv
  |exact s_ib hm hok hv
  |exact s_isn hm hok hv
  |exact s_ta hm hok hv
  |exact s_xa hm hok hv
  |first | exact s_cs hI hm hok hv | (simp [opv] at hv)
theorem opn_sound (hI:Inv B w0 g h w) (hm:RT g w m a) {o:O} {id:Nat} (hn:g.κ id=none) {ob:Obj} (hq:∀ i,hget h' i=if i=id then some ob else hget h i) (hok:okNew P op o=true) (hv:opn m id o=some (ob,v)) :
  Does P B w0 g h w a ⟨dst,op,ty,pos,aft,gd⟩ v h' (· = id):=by
 cases o<;>first
  |(simp [okNew] at hok;done)
  |exact d_bx hI hm hn hok hq hv
  |exact d_al hI hn hok hq hv
  |exact d_bs hI hm hn hok hq hv
  |exact d_ms hI hm hn hok hq hv
  |exact d_nl hI hn hok hq hv
  |exact d_mm hI hn hok hq hv
  |exact d_rs hI hm hn hok hq hv
theorem e_ap (hI:Inv B w0 g h w) (hm:RT g w m a) {es by_ id:Nat} {x y:X} (hn:hget h id=none) (hok:okEff P op (.ap es by_ x y)=true) (hh:append h id es by_ (ev m x) (ev m y)=some (v,h')) :
  Does P B w0 g h w a ⟨dst,op,ty,pos,aft,gd⟩ v h' (· = id):=by
 cases op<;>simp only [okEff,Bool.false_eq_true] at hok
 rename_i c
 obtain ⟨cal,args,ts⟩:=c
 cases cal<;>first | (simp at hok;done) | skip
 rename_i bi
 cases bi<;>first | (simp at hok;done) | skip
 simp only [Bool.and_eq_true] at hok
 obtain ⟨h1,h2⟩:=hok
 obtain ⟨o1,o2,ha,hx1,hk1⟩:=okXs_two h1
 have ea:=arr_of_toList ha;subst ea
 split at h2
 ·rename_i t t2 hts
  have et:=arr_of_toList hts;subst et
  simp only [Bool.and_eq_true] at h2
  obtain ⟨h3,h4⟩:=h2
  obtain ⟨d,hd,hp⟩:=desc_of h3
  cases d<;>simp only [elemOk,Bool.false_eq_true] at hp
  rename_i e
  obtain ⟨g',w',z,k1,k2,k3,k4,k5,k6⟩:=append_sound (ty:=ty) hI (R_okX hm hx1) (R_okX hm hk1) hn hd h4 hp hh
  refine ⟨g',w',_,z,exec_builtin (Builtin.append_ #[t,t2] ty #[a.eval o1,a.eval o2]) (fun _=>by rw [map_two];rfl) k1,.inl rfl,k2,k3,k4,k5,k6⟩
 ·simp at h2
theorem exec_cl {f:Nat} {args:Array Operand} {ts:Array TypeId} {as:List X} {cs:List FV} {caps:List Value} (hm:RT g w m a) (he:entered P f=true) {fo:Operand} (hf:a.eval fo=.func (.func f) #[] caps.toArray) (hc:RL g w cs caps)
  (ho:okXs args.toList as=true) :
  ∃ xs,(execOp a.eval ⟨dst,.call ⟨.value fo,args,ts⟩,ty,pos,aft,gd⟩).run P w=.ok (.enter f xs.toArray) w∧RL g w (evs m as ++ cs) xs:=by
 refine ⟨args.toList.map a.eval ++ caps,?_,(RL_okXs hm ho).append hc⟩
 have e:(#[] ++ args.map a.eval) ++ caps.toArray=(args.toList.map a.eval ++ caps).toArray:=by
  apply Array.toList_inj.1;simp
 simp only [execOp,resolve,hf,Deferred.ofValue,pure_bind,invoke]
 rw [e,run_callFunc he]
theorem exec_bl {f:Nat} {args:Array Operand} {ts:Array TypeId} {as:List X} {cs:List FV} {firsts:List Value} (hm:RT g w m a) (he:entered P f=true) {fo:Operand} (hf:a.eval fo=.func (.func f) firsts.toArray #[]) (hc:RL g w cs firsts)
  (ho:okXs args.toList as=true) :
  ∃ xs,(execOp a.eval ⟨dst,.call ⟨.value fo,args,ts⟩,ty,pos,aft,gd⟩).run P w=.ok (.enter f xs.toArray) w∧RL g w (cs ++ evs m as) xs:=by
 refine ⟨firsts ++ args.toList.map a.eval,?_,hc.append (RL_okXs hm ho)⟩
 have e:(firsts.toArray ++ args.map a.eval) ++ #[]=(firsts ++ args.toList.map a.eval).toArray:=by
  apply Array.toList_inj.1;simp
 simp only [execOp,resolve,hf,Deferred.ofValue,pure_bind,invoke]
 rw [e,run_callFunc he]
theorem wp_call {cal:Call} {f nx nx':Nat} {args:List FV} (hcal:CalOk P cal) (hlt:f < RB) (hgl:GlOk g w) (hv:cal f args h nx=some (v,h',nx')) (hI:Inv B w0 g h w) (hf:Fresh h nx)
  (hx:entered P f=true→∃ xs,(execOp a.eval o).run P w=.ok (.enter f xs.toArray) w∧RL g w args xs) (hd:∀ c,o.op ≠ .defer c)
  (hK:∀ g' w' x,R g' w' v x→Nx B w0 g g' h' w w'→KNew g g' h h' (fun i=>nx ≤ i∧i < nx')→K (a.put o.dst x) w'):o.wpIn (fb r) n P a w K Q:=by
 obtain ⟨h1,h3⟩:=hcal.fn f args h nx v h' nx' hv hlt
 obtain ⟨xs,h4,h5⟩:=hx h1
 refine ⟨fun _ _=>trivial,?_⟩
 rw [Oper.semAt_eq _ _ _ hd,h4,Oper.uponIn_enter]
 refine ⟨fun hh=>by simp [fb,Fence.wide] at hh,callsIn_fb ((h3 B w0 g w xs hI hgl h5 hf).mono ?_)⟩
 rintro e w' ⟨x,g',rfl,hr,hn,hk⟩
 exact hK g' w' x hr hn hk
theorem RoundW.mono {l:Nat} {f:FuncId} {tmps:Array Value} {assign body:Code} {R R':Ending→World→Prop} (hr:RoundW P l f tmps assign body w R) (hi:∀ e w',R e w'→R' e w'):RoundW P l f tmps assign body w R' :=
 fun c cs=>let ⟨e,w',h1,h2⟩:=hr c cs;⟨e,w',hi _ _ h1,h2⟩
theorem exec_yl {b:Nat} {args:Array Operand} {ts:Array TypeId} {fo:Operand} (hf:a.eval fo=.func (.yield b) #[] #[]) :
  (execOp a.eval ⟨dst,.call ⟨.value fo,args,ts⟩,ty,pos,aft,gd⟩).run P w=(Instr.yield b (args.toList.map a.eval).toArray).run P w:=by
 have e:(#[] ++ args.map a.eval)=(args.toList.map a.eval).toArray:=by
  apply Array.toList_inj.1;simp
 simp only [execOp,resolve,hf,Deferred.ofValue,pure_bind,invoke]
 rw [e]
theorem wp_yield {cal:Call} {f id nx nx':Nat} {caps args:List FV} {args':Array Operand} {ts:Array TypeId} {fo:Operand} {xs:List X} (hcal:CalOk P cal) (hv:cal f (.yl f id caps::args) h nx=some (v,h',nx')) (hI:Inv B w0 g h w) (hm:RT g w m a) (hf:Fresh h nx)
  (hy:R g w (.yl f id caps) (a.eval fo)) (he:evs m xs=args) (ho:okXs args'.toList xs=true)
  (hK:∀ g' w' x,R g' w' v x→Nx B w0 g g' h' w w'→KNew g g' h h' (fun i=>nx ≤ i∧i < nx')→K (a.put dst x) w'):(⟨dst,.call ⟨.value fo,args',ts⟩,ty,pos,aft,gd⟩:Oper).wpIn (fb r) n P a w K Q:=by
 have hge:RB ≤ f:=by generalize a.eval fo=q at hy;cases hy;assumption
 have hxs:=RL_okXs hm ho
 rw [he] at hxs
 obtain ⟨b,fn,tmps,as_,bo,e1,e2,e3⟩:=hcal.rd f id caps args h nx v h' nx' hv hge B w0 g w _ _ hI hm.gl hy hxs hf
 refine ⟨fun _ _=>trivial,?_⟩
 rw [Oper.semAt_eq _ _ _ (by intro c;simp),exec_yl e1,e2,Oper.uponIn_round]
 refine ⟨fun hh=>by simp [fb,Fence.wide] at hh,roundIn_fb (e3.mono ?_)⟩
 rintro e w' ⟨x,g',rfl,hr,hn,hk⟩
 exact hK g' w' x hr hn hk
theorem hset_none {id:Nat} {ob q:Obj} (hs:hget h id=some q):∀ i,hget h i=none→hget (hset h id ob) i=none:=by
 intro i hi
 rw [hget_hset hs]
 split
 ·rename_i e;subst e;rw [hi] at hs;cases hs
 ·exact hi
theorem storev_new {sz:Nat} {x y:FV} (hh:storev h sz y x=some h'):∀ i,hget h i=none→hget h' i=none:=by
 unfold storev at hh
 split at hh
 ·split at hh
  ·rename_i hg
   obtain ⟨_,hh⟩:=chk_some hh
   obtain ⟨e,_,hh⟩:=bnd_some hh
   obtain ⟨_,hh⟩:=chk_some hh
   simp only [Option.some.injEq] at hh;subst hh
   exact hset_none hg
  ·simp at hh
 ·simp at hh
theorem append_new {id es by_:Nat} {x y:FV} (hh:append h id es by_ x y=some (v,h')):∀ i,hget h i=none→i ≠ id→hget h' i=none:=by
 unfold append at hh
 obtain ⟨ys,_,hh⟩:=bnd_some hh
 obtain ⟨_,hh⟩:=chk_some hh
 intro i hi hne
 split at hh
 ·obtain ⟨_,hh⟩:=chk_some hh
  simp only [Option.some.injEq,Prod.mk.injEq] at hh
  obtain ⟨_,rfl⟩:=hh
  rw [hget_cons,if_neg hne,hi]
 ·split at hh
  ·rename_i hg
   obtain ⟨_,hh⟩:=chk_some hh
   split at hh
   ·simp only [Option.some.injEq,Prod.mk.injEq] at hh
    obtain ⟨_,rfl⟩:=hh
    exact hi
   ·split at hh
    ·simp only [Option.some.injEq,Prod.mk.injEq] at hh
     obtain ⟨_,rfl⟩:=hh
     exact hset_none hg i hi
    ·obtain ⟨_,hh⟩:=chk_some hh
     simp only [Option.some.injEq,Prod.mk.injEq] at hh
     obtain ⟨_,rfl⟩:=hh
     exact hset_none hg i hi
  ·simp at hh
 ·simp at hh
theorem opg_new {cal:Call} (hcal:CalOk P cal) {id nx nx':Nat} {gg:G} (hn:hget h id=none) (hf:Fresh h nx) (hv:opg cal id gg m h nx=some (v,h',nx')) :
  nx ≤ nx'∧∀ i,hget h i=none→i ≠ id→(i < nx ∨ nx' ≤ i)→hget h' i=none:=by
 have two:∀ {ob:Obj},nx ≤ nx∧∀ i,hget h i=none→i ≠ id→(i < nx ∨ nx ≤ i)→hget ((id,ob)::h) i=none:=fun {ob} =>
  ⟨Nat.le_refl _,fun i hi hne _=>by rw [hget_cons,if_neg hne,hi]⟩
 unfold opg at hv
 split at hv
 ·obtain ⟨h2,k1,hv⟩:=bnd_some hv
  simp only [Option.some.injEq,Prod.mk.injEq] at hv
  obtain ⟨rfl,rfl,rfl⟩:=hv
  exact ⟨Nat.le_refl _,fun i hi _ _=>storev_new k1 i hi⟩
 ·obtain ⟨⟨v2,h2⟩,k1,hv⟩:=bnd_some hv
  simp only [Option.some.injEq,Prod.mk.injEq] at hv
  obtain ⟨rfl,rfl,rfl⟩:=hv
  exact ⟨Nat.le_refl _,fun i hi hne _=>append_new k1 i hi hne⟩
 ·obtain ⟨v2,k1,hv⟩:=bnd_some hv
  simp only [Option.some.injEq,Prod.mk.injEq] at hv
  obtain ⟨rfl,rfl,rfl⟩:=hv
  exact ⟨Nat.le_refl _,fun i hi _ _=>hi⟩
 ·split at hv
  ·split at hv
   ·rename_i hg
    obtain ⟨v2,k1,hv⟩:=bnd_some hv
    simp only [Option.some.injEq,Prod.mk.injEq] at hv
    obtain ⟨rfl,rfl,rfl⟩:=hv
    exact ⟨Nat.le_refl _,fun i hi _ _=>hset_none hg i hi⟩
   ·simp at hv
  ·simp at hv
 ·split at hv
  ·split at hv
   ·rename_i hg
    obtain ⟨v2,k1,hv⟩:=bnd_some hv
    simp only [Option.some.injEq,Prod.mk.injEq] at hv
    obtain ⟨rfl,rfl,rfl⟩:=hv
    exact ⟨Nat.le_refl _,fun i hi _ _=>hset_none hg i hi⟩
   ·simp at hv
  ·simp at hv
 ·have:=hcal.new _ _ _ _ _ _ _ hv hf
  exact ⟨this.1,fun i hi _ hx=>this.2 i hi hx⟩
 ·split at hv
  ·split at hv
   ·have:=hcal.new _ _ _ _ _ _ _ hv hf
    exact ⟨this.1,fun i hi _ hx=>this.2 i hi hx⟩
   ·have:=hcal.new _ _ _ _ _ _ _ hv hf
    exact ⟨this.1,fun i hi _ hx=>this.2 i hi hx⟩
  ·have:=hcal.new _ _ _ _ _ _ _ hv hf
   exact ⟨this.1,fun i hi _ hx=>this.2 i hi hx⟩
  ·simp at hv
 iterate 7
  ·obtain ⟨⟨o2,v2⟩,k1,hv⟩:=bnd_some hv
   simp only [Option.some.injEq,Prod.mk.injEq] at hv
   obtain ⟨rfl,rfl,rfl⟩:=hv
   exact two
 ·split at hv
  ·split at hv
   ·rename_i hg
    split at hv
    ·simp only [Option.some.injEq,Prod.mk.injEq] at hv
     obtain ⟨rfl,rfl,rfl⟩:=hv
     exact ⟨Nat.le_refl _,fun i hi _ _=>hset_none hg i hi⟩
    ·simp only [Option.some.injEq,Prod.mk.injEq] at hv
     obtain ⟨rfl,rfl,rfl⟩:=hv
     exact ⟨Nat.le_refl _,fun i hi _ _=>hi⟩
   ·simp at hv
  ·simp at hv
 ·obtain ⟨v2,k1,hv⟩:=bnd_some hv
  simp only [Option.some.injEq,Prod.mk.injEq] at hv
  obtain ⟨rfl,rfl,rfl⟩:=hv
  exact ⟨Nat.le_refl _,fun i hi _ _=>hi⟩
theorem opg_sound {cal:Call} (hcal:CalOk P cal) {id nx nx':Nat} {gg:G} (hI:Inv B w0 g h w) (hm:RT g w m a) (hn:hget h id=none) (hf:Fresh h nx) (hok:okO P op gg.op=true)
  (hv:opg cal id gg m h nx=some (v,h',nx')) (hK:∀ g' w' x,R g' w' v x→Nx B w0 g g' h' w w'→KNew g g' h h' (fun i=>i=id ∨ nx ≤ i∧i < nx')→K (a.put dst x) w') :
  Oper.wpIn (fb r) n P ⟨dst,op,ty,pos,aft,gd⟩ a w K Q:=by
 have hd:=okO_defer hok
 have news:∀ (o:O),gg.op=o→okNew P op o=true→(bnd (opn m id o) fun r=>some (r.2,(id,r.1)::h,nx))=some (v,h',nx')→Oper.wpIn (fb r) n P ⟨dst,op,ty,pos,aft,gd⟩ a w K Q:=by
  intro o _ h1 h2
  obtain ⟨⟨o2,v2⟩,k1,h2⟩:=bnd_some h2
  simp only [Option.some.injEq,Prod.mk.injEq] at h2
  obtain ⟨rfl,rfl,rfl⟩:=h2
  exact wp_does hI hd (opn_sound hI hm (kNone hI hn) (hget_cons h id _) h1 k1) fun g' w' x e1 e2 e3=>hK g' w' x e1 e2 fun i hi=>e3 i fun e=>hi (.inl e)
 unfold opg at hv
 split at hv
 ·rename_i ho
  rw [ho] at hok
  obtain ⟨h2,k1,hv⟩:=bnd_some hv
  simp only [Option.some.injEq,Prod.mk.injEq] at hv
  obtain ⟨rfl,rfl,rfl⟩:=hv
  exact wp_does hI hd (e_st hI hm hok k1) fun g' w' x e1 e2 e3=>hK g' w' x e1 e2 fun i _=>e3 i (fun hf=>hf)
 ·rename_i ho
  rw [ho] at hok
  obtain ⟨⟨v2,h2⟩,k1,hv⟩:=bnd_some hv
  simp only [Option.some.injEq,Prod.mk.injEq] at hv
  obtain ⟨rfl,rfl,rfl⟩:=hv
  exact wp_does hI hd (e_ap hI hm hn hok k1) fun g' w' x e1 e2 e3=>hK g' w' x e1 e2 fun i hi=>e3 i fun e=>hi (.inl e)
 ·rename_i ho
  rw [ho] at hok
  obtain ⟨v2,k1,hv⟩:=bnd_some hv
  simp only [Option.some.injEq,Prod.mk.injEq] at hv
  obtain ⟨rfl,rfl,rfl⟩:=hv
  exact wp_yields hd (e_lk hI hm hok k1) fun x hx=>hK g w x hx (.refl hI) fun _ _ h=>⟨h,rfl⟩
 ·rename_i ho
  rw [ho] at hok
  split at hv
  ·rename_i hx
   split at hv
   ·rename_i hg
    obtain ⟨v2,k1,hv⟩:=bnd_some hv
    simp only [Option.some.injEq,Prod.mk.injEq] at hv
    obtain ⟨rfl,rfl,rfl⟩:=hv
    exact wp_does hI hd (e_mu hI hm hok hx hg k1) fun g' w' x e1 e2 e3=>hK g' w' x e1 e2 fun i _=>e3 i (fun hf=>hf)
   ·simp at hv
  ·simp at hv
 ·rename_i ho
  rw [ho] at hok
  split at hv
  ·rename_i hx
   split at hv
   ·rename_i hg
    obtain ⟨v2,k1,hv⟩:=bnd_some hv
    simp only [Option.some.injEq,Prod.mk.injEq] at hv
    obtain ⟨rfl,rfl,rfl⟩:=hv
    exact wp_does hI hd (e_dl hI hm hok hx hg k1) fun g' w' x e1 e2 e3=>hK g' w' x e1 e2 fun i _=>e3 i (fun hf=>hf)
   ·simp at hv
  ·simp at hv
 ·rename_i f as ho
  rw [ho] at hok
  simp only [okO] at hok
  split at hok
  ·rename_i f2 args2 ts2
   simp only [Bool.and_eq_true,beq_iff_eq,decide_eq_true_eq] at hok
   obtain ⟨⟨rfl,hlt⟩,h2⟩:=hok
   refine wp_call hcal hlt hm.gl hv hI hf (fun he=>?_) hd fun g' w' x e1 e2 e3=>hK g' w' x e1 e2 fun i hi=>e3 i fun e=>hi (.inr e)
   have:=exec_cl (ts:=ts2) (dst:=dst) (ty:=ty) (pos:=pos) (aft:=aft) (gd:=gd) (caps:=[]) (cs:=[]) hm he (fo:=.func _) rfl .nil h2
   simpa using this
  ·simp at hok
 ·rename_i f as ho
  rw [ho] at hok
  split at hv
  ·rename_i f' caps hx
   simp only [okO] at hok
   split at hok
   ·simp only [Bool.and_eq_true] at hok
    obtain ⟨h1,h2⟩:=hok
    have rx:=R_okX hm h1
    rw [hx] at rx
    by_cases hq:f' < OB
    ·rw [if_pos hq] at hv
     obtain ⟨vs,e1,hlt,e2⟩:=R_fn rx hq
     refine wp_call hcal hlt hm.gl hv hI hf (fun he=>?_) hd fun g' w' x e1 e2 e3=>hK g' w' x e1 e2 fun i hi=>e3 i fun e=>hi (.inr e)
     exact exec_cl hm he e1 e2 h2
    ·rw [if_neg hq] at hv
     obtain ⟨vs,e1,hlt,e2⟩:=R_bf rx hq
     refine wp_call hcal hlt hm.gl hv hI hf (fun he=>?_) hd fun g' w' x e1 e2 e3=>hK g' w' x e1 e2 fun i hi=>e3 i fun e=>hi (.inr e)
     exact exec_bl hm he e1 e2 h2
   ·simp at hok
  ·rename_i f' id' caps hx
   simp only [okO] at hok
   split at hok
   ·simp only [Bool.and_eq_true] at hok
    obtain ⟨h1,h2⟩:=hok
    have rx:=R_okX hm h1
    rw [hx] at rx
    exact wp_yield hcal hv hI hm hf rx rfl h2 fun g' w' x e1 e2 e3=>hK g' w' x e1 e2 fun i hi=>e3 i fun e=>hi (.inr e)
   ·simp at hok
  ·simp at hv
 all_goals rename_i ho
 ·rw [ho] at hok;exact news _ ho hok hv
 ·rw [ho] at hok;exact news _ ho hok hv
 ·rw [ho] at hok;exact news _ ho hok hv
 ·rw [ho] at hok;exact news _ ho hok hv
 ·rw [ho] at hok;exact news _ ho hok hv
 ·rw [ho] at hok;exact news _ ho hok hv
 ·rw [ho] at hok;exact news _ ho hok hv
 ·rw [ho] at hok
  split at hv
  ·rename_i hx
   split at hv
   ·rename_i hg
    obtain ⟨rfl,hD,_⟩:=e_ns (dst:=dst) (ty:=ty) (pos:=pos) (aft:=aft) (gd:=gd) hI hm hok hx hg hv
    exact wp_does hI hd hD fun g' w' x e1 e2 e3=>hK g' w' x e1 e2 fun i _=>e3 i (fun hf=>hf)
   ·simp at hv
  ·simp at hv
 ·obtain ⟨v2,k1,hv⟩:=bnd_some hv
  simp only [Option.some.injEq,Prod.mk.injEq] at hv
  obtain ⟨rfl,rfl,rfl⟩:=hv
  have hok':okOp P op gg.op=true:=by
   revert hok
   generalize gg.op=q at *
   cases q<;>simp_all [okO,opv]
  exact wp_yields hd (opv_sound hI hm hok' k1) fun x hx=>hK g w x hx (.refl hI) fun _ _ h=>⟨h,rfl⟩
end
end Go.FI
namespace Go.FI
open Go.RowKit
variable [Sys]
section
variable {g g':Gh} {w w':World} {P:Program} {B:Nat} {w0:World} {h h':Heap}
theorem write_loop (hI : Inv B w0 g h w) {id st jp : Nat} {l : Loc} (hg : hget h id = some (.lp st jp)) (hk : g.κ id = some l) (st' jp' : Nat) :
    ∃ b r, l.blk = some b ∧ l.lp = some r ∧ l.mp = true ∧ w.heap[b]? = some (.loop { r with state := stO st, pending := jpO jp }) ∧ b < w.heap.size ∧
      Inv B w0 g (hset h id (.lp st' jp')) (w.putObj b (.loop { r with state := stO st', pending := jpO jp' })) ∧ GLe g g w (w.putObj b (.loop { r with state := stO st', pending := jpO jp' })) := by
  have ho : LpOk w l st jp := hI.obj id _ l hg hk
  obtain ⟨hmp, b, r, hb, hr, hw⟩ := ho
  have hblt : b < w.heap.size := (hI.own id l b hk hb).2.2
  have p : Put g g w (w.putObj b (.loop { r with state := stO st', pending := jpO jp' })) id l :=
    { k := fun i => by split; rename_i e; subst e; exact hk; rfl
      z := rfl
      old := fun l2 hl => by rw [hk] at hl; cases hl; exact ⟨Nat.le_refl _, rfl, fun _ => rfl⟩
      blk := fun c e => .inl ⟨l, hk, e⟩
      heap := fun c _ hc => World.putObj_heap_other fun e => hc (by rw [hb, e])
      sz := by simp
      lt := fun c e => by rw [hb] at e; cases e; simpa using hblt
      os := rfl
      tape := rfl
      output := rfl }
  exact ⟨b, r, hb, hr, hmp, hw, hblt, hI.put p (hget_hset hg) ⟨hmp, b, r, hb, hr, World.putObj_heap_same hblt⟩ (fun _ _ => by rw [hg]; rfl), p.gle hI (fun _ _ => by rw [hg]; rfl)⟩
theorem Inv.still (hI:Inv B w0 g h w) (o:Go.Obj):Inv B w0 ⟨g.κ,fun b=>g.Z b ∨ b=w.heap.size⟩ h (w.alloc o)∧GLe g ⟨g.κ,fun b=>g.Z b ∨ b=w.heap.size⟩ w (w.alloc o):=by
 have hlt:∀ b,b < w.heap.size→(w.alloc o).heap[b]? = w.heap[b]? := fun b hb=>Below.heap_alloc w o b hb
 have hle:GLe g ⟨g.κ,fun b=>g.Z b ∨ b=w.heap.size⟩ w (w.alloc o):=⟨fun _ h=>.inl h,fun b hb=>hlt b (hI.zlt b hb),KLe.refl _⟩
 refine ⟨⟨hI.dom,fun i q l hq hl=>?_,hI.inj,fun i l b hl hb=>?_,fun b hb=>?_,?_,?_⟩,hle⟩
 ·exact (hI.obj i q l hq hl).mono hle fun b hb=>hlt b (hI.own i l b hl hb).2.2
 ·obtain ⟨h1,h2,h3⟩:=hI.own i l b hl hb
  exact ⟨h1,fun hf hz=>by rcases hz with hz | hz;exact h2 hf hz;omega,by simp;omega⟩
 ·rcases hb with hb | hb
  ·have:=hI.zlt b hb;simp;omega
  ·subst hb;simp
 ·exact hI.below.alloc hI.size o
 ·have:=hI.size;simp;omega
theorem loop_at (hI:Inv B w0 g h w) {id:Nat} {l:Loc} {r:Loop} (hk:g.κ id=some l) (hm:l.mp=true) (hr:l.lp=some r):∃ b r',l.blk=some b∧w.heap[b]? = some (.loop r'):=by
 obtain ⟨o,ho⟩:=hI.dom id l hk
 have:=hI.obj id o l ho hk
 cases o with
 |row es xs=>have:=(this:RowOk g w l es xs).hmp;rw [hm] at this;cases this
 |fro es xs=>have:=(this.1:RowOk g w l es xs).hmp;rw [hm] at this;cases this
 |mp en=>have:=(this:MapOk g w l en).hlp;rw [hr] at this;cases this
 |fmp en=>have:=(this.1:MapOk g w l en).hlp;rw [hr] at this;cases this
 |mit=>have:=(this:MitOk g w l).hlp;rw [hr] at this;cases this
 |sit s pos=>have:=(this:SitOk w l s pos).hlp;rw [hr] at this;cases this
 |lp st jp =>
  obtain ⟨_,b,r',h1,_,h3⟩:=(this:LpOk w l st jp)
  exact ⟨b,_,h1,h3⟩
theorem enter_loop_in (hI:Inv B w0 g h w) {id:Nat} (hn:hget h id=none) (r:Loop) (hs:r.state=.ready) (hp:r.pending=none) :
  ∃ g1,g1.κ=upd g.κ id ⟨some w.heap.size,0,0,0,true,some r⟩∧(∀ b,g1.Z b→g.Z b) ∧
   Inv B w0 g1 ((id,.lp 0 0)::h) (w.alloc (.loop r))∧GLe g g1 w (w.alloc (.loop r)):=by
 have hk:=kNone hI hn
 have p:=Put.alloc hI hk (.loop r) ⟨some w.heap.size,0,0,0,true,some r⟩ rfl
 have hr:r={ r with state:=stO 0,pending:=jpO 0 }:=by
  obtain ⟨s,q,fn,tmps,ps,a,b,d⟩:=r
  simp only at hs hp
  subst hs;subst hp
  rfl
 refine ⟨⟨upd g.κ id ⟨some w.heap.size,0,0,0,true,some r⟩,g.Z⟩,rfl,fun b h=>h,hI.put p (hget_cons h id _) ⟨rfl,w.heap.size,r,rfl,rfl,?_⟩ (fun _ _=>by rw [hn];rfl),p.gle hI (fun _ _=>by rw [hn];rfl)⟩
 rw [← hr]
 exact World.alloc_heap_new _ _
theorem run_enterLoop_in (P:Program) {w:World} {l:Nat} {r0:Loop} (h:w.heap[l]? = some (.loop r0)) (fn:FuncId) (tmps:Array Value) (ps:Array Tmp) (assign body:Code) :
  (Instr.enterLoop fn tmps ps assign body (some l)).run P w =
   .ok (w.heap.size,[]) (w.alloc (.loop { state:=.ready,pending:=none,fn,tmps,params:=ps,assign,body,defers:=r0.defers })):=by
 unfold Instr.enterLoop
 simp only [Sem.run_bind,run_getLoop h,run_newObj_alloc,Result.andThen,Sem.run_pure]
theorem enter_loop (hI:Inv B w0 g h w) {id:Nat} (hn:hget h id=none) (r:Loop) (hs:r.state=.ready) (hp:r.pending=none) :
  ∃ g1,g1.κ=upd g.κ id ⟨some (w.heap.size + 1),0,0,0,true,some r⟩∧(∀ b,g1.Z b ↔ g.Z b ∨ b=w.heap.size) ∧
   Inv B w0 g1 ((id,.lp 0 0)::h) ((w.alloc (.deferred (some []))).alloc (.loop r))∧GLe g g1 w ((w.alloc (.deferred (some []))).alloc (.loop r)) ∧
   ((w.alloc (.deferred (some []))).alloc (.loop r)).heap[w.heap.size]? = some (.deferred (some [])):=by
 obtain ⟨h1,h2⟩:=hI.still (.deferred (some []))
 have hk:=kNone h1 hn
 have hsz:(w.alloc (.deferred (some []))).heap.size=w.heap.size + 1:=by simp
 have p:=Put.alloc h1 hk (.loop r) ⟨some (w.heap.size + 1),0,0,0,true,some r⟩ (by rw [hsz])
 have hr:r={ r with state:=stO 0,pending:=jpO 0 }:=by
  obtain ⟨s,q,fn,tmps,ps,a,b,d⟩:=r
  simp only at hs hp
  subst hs;subst hp
  rfl
 refine ⟨_,rfl,fun b=>Iff.rfl,h1.put p (hget_cons h id _) ⟨rfl,w.heap.size + 1,r,rfl,rfl,?_⟩ (fun _ _=>by rw [hn];rfl),h2.trans (p.gle h1 (fun _ _=>by rw [hn];rfl)),?_⟩
 ·rw [← hr,← hsz]
  exact World.alloc_heap_new _ _
 ·rw [Below.heap_alloc _ _ _ (by simp)]
  exact World.alloc_heap_new _ _
end
def Marks (g:Gh) (w:World) (lo:Nat):List Deferred→Prop
 |[]=>True
 |d::ds=>(∃ r,d={ target:=.collected r,args:=#[] }∧g.Z r∧lo ≤ r∧w.heap[r]? = some (.deferred (some []))∧∀ d' ∈ ds,d' ≠ d)∧Marks g w lo ds
theorem Marks.mono {g g':Gh} {w w':World} {lo lo':Nat} (hlo:lo' ≤ lo) (hz:∀ b,g.Z b→g'.Z b) (hh:∀ b,g.Z b→w'.heap[b]? = w.heap[b]?):∀ {ds:List Deferred},Marks g w lo ds→Marks g' w' lo' ds:=by
 intro ds
 induction ds with
 |nil=>intro _;trivial
 |cons d ds ih =>
  rintro ⟨⟨r,h1,h2,h3,h4,h5⟩,h6⟩
  exact ⟨⟨r,h1,hz r h2,Nat.le_trans hlo h3,by rw [hh r h2];exact h4,h5⟩,ih h6⟩
theorem Marks.mem {g:Gh} {w:World} {lo:Nat}:∀ {ds:List Deferred},Marks g w lo ds→∀ {d},d ∈ ds→∃ r,d=({ target:=.collected r,args:=#[] }:Deferred)∧g.Z r:=by
 intro ds
 induction ds with
 |nil=>intro _ d hd;simp at hd
 |cons e ds ih =>
  rintro ⟨⟨r,h1,h2,h3,h4,h5⟩,h6⟩ d hd
  rcases List.mem_cons.1 hd with hd | hd
  ·exact ⟨r,hd.trans h1,h2⟩
  ·exact ih h6 hd
theorem Marks.append {g:Gh} {w:World} {lo lo':Nat} {ms:List Deferred} (hm:Marks g w lo ms) (hlo:lo ≤ lo') (hlt:∀ d ∈ ms,∀ r,d=({ target:=.collected r,args:=#[] }:Deferred)→r < lo'):∀ {ds:List Deferred},Marks g w lo' ds→Marks g w lo (ds ++ ms):=by
 intro ds
 induction ds with
 |nil=>intro _;exact hm
 |cons d ds ih =>
  rintro ⟨⟨r,h1,h2,h3,h4,h5⟩,h6⟩
  refine ⟨⟨r,h1,h2,Nat.le_trans hlo h3,h4,fun d' hd'=>?_⟩,ih h6⟩
  rcases List.mem_append.1 hd' with hd' | hd'
  ·exact h5 d' hd'
  ·intro e
   have:=hlt d' hd' r (by rw [e,h1])
   omega
def Rnd (β:Nat) (g:Gh) (b:Frame):Prop:=∀ q,b.roundOf=some q→∃ id loc r,id < β∧g.κ id=some loc∧loc.blk=some q∧loc.mp=true∧loc.lp=some r
theorem Rnd.le {β:Nat} {g g1:Gh} {w w1:World} {b:Frame} (h:Rnd β g b) (hg:GLe g g1 w w1):Rnd β g1 b:=fun q hq=>by
 obtain ⟨id,loc,r,h1,h2,h3,h4,h5⟩:=h q hq
 obtain ⟨loc',k1,_,_,k2⟩:=hg.k id loc h2
 have:=k2 (.inr h4)
 subst this
 exact ⟨id,loc',r,h1,k1,h3,h4,h5⟩
theorem enter_any (P:Program) {B:Nat} {w0:World} {g:Gh} {h:Heap} {w:World} {β:Nat} {b:Frame} (hI:Inv B w0 g h w) (hR:Rnd β g b) {id:Nat} (hn:hget h id=none) (tmps:Array Value) (ps:Array Tmp) (asg body:Code) :
  ∃ g1 w1 l mark r,r.tmps=tmps∧r.params=ps∧r.assign=asg∧r.body=body∧(Instr.enterLoop b.fn tmps ps asg body b.roundOf).run P w=.ok (l,mark) w1∧g1.κ=upd g.κ id ⟨some l,0,0,0,true,some r⟩ ∧
   Inv B w0 g1 ((id,.lp 0 0)::h) w1∧GLe g g1 w w1∧(∀ b,g1.Z b→g.Z b ∨ w.heap.size ≤ b)∧w.heap.size ≤ w1.heap.size∧Marks g1 w1 w.heap.size mark:=by
 cases hb:b.roundOf with
 |none =>
  obtain ⟨r,hr⟩:∃ r:Loop,r={ state:=.ready,pending:=none,fn:=b.fn,tmps:=tmps,params:=ps,assign:=asg,body:=body,defers:=w.heap.size }:=⟨_,rfl⟩
  obtain ⟨g1,k1,k2,k3,k4,k5⟩:=enter_loop hI hn r (by rw [hr]) (by rw [hr])
  refine ⟨g1,_,w.heap.size + 1,[{ target:=.collected w.heap.size,args:=#[] }],r,by rw [hr],by rw [hr],by rw [hr],by rw [hr],by rw [hr];exact run_enterLoop_outer _ _ _ _ _,k1,k3,k4,fun b hb=>?_,by simp;omega,⟨⟨w.heap.size,rfl,(k2 _).2 (.inr rfl),Nat.le_refl _,k5,fun _ h=>by simp at h⟩,trivial⟩⟩
  rcases (k2 b).1 hb with h | h
  ·exact .inl h
  ·exact .inr (by omega)
 |some q =>
  obtain ⟨i,loc,r0,h1,h2,h3,h4,h5⟩:=hR q hb
  obtain ⟨bq,r1,e1,e2⟩:=loop_at hI h2 h4 h5
  rw [h3] at e1;cases e1
  obtain ⟨r,hr⟩:∃ r:Loop,r={ state:=.ready,pending:=none,fn:=b.fn,tmps:=tmps,params:=ps,assign:=asg,body:=body,defers:=r1.defers }:=⟨_,rfl⟩
  obtain ⟨g1,k1,k2,k3,k4⟩:=enter_loop_in hI hn r (by rw [hr]) (by rw [hr])
  exact ⟨g1,_,w.heap.size,[],r,by rw [hr],by rw [hr],by rw [hr],by rw [hr],by rw [hr];exact run_enterLoop_in P e2 _ _ _ _ _,k1,k3,k4,fun b hb=>.inl (k2 b hb),by simp,trivial⟩
end Go.FI
namespace Go.FI
open Go.RowKit
variable [Sys]
def okGd (ops:Array Oper) (nt:Nat):Option (Nat × Bool)→Option (Nat × Bool)→Bool
 |none,none=>true
 |some (j,b),some (t,c)=>b == c && ((ops[j]?).bind (·.dst)) == some t && decide (t < nt)
 |_,_=>false
def okDst (nt:Nat):Option Nat→Bool
 |some d=>decide (d < nt)
 |none=>true
def okG (P:Program) (ops:Array Oper) (nt:Nat) (o:Oper) (g:G):Bool :=
 o.dst == g.dst && okDst nt g.dst && okGd ops nt o.guard g.guard && okO P o.op g.op
def okGs (P:Program) (ops:Array Oper) (nt:Nat):List Oper→List G→Bool
 |[],[]=>true
 |o::os,g::gs=>okG P ops nt o g && okGs P ops nt os gs
 |_,_=>false
section
variable {g g':Gh} {w w':World} {P:Program} {B:Nat} {w0:World} {h h':Heap} {a:Act} {m m':Tm} {v:FV} {ops:Array Oper} {nt:Nat} {cal:Call}
theorem RT.mono (hg:GLe g g' w w') (hm:RT g w m a):RT g' w' m a:=⟨fun t=>(hm t).mono hg,fun k cs hk=>(hm.gl k cs hk).mono hg⟩
theorem RT.put (hm:RT g w m a) (hs:a.tmps.size=nt) {d:Option Nat} (hd:okDst nt d=true) {x:Value} (hv:R g w v x):RT g w (put m d v) (a.put d x):=by
 refine ⟨fun t=>?_,hm.gl⟩
 cases d with
 |none=>exact hm t
 |some d =>
  have hlt:d < a.tmps.size:=by simp [okDst] at hd;omega
  simp only [FI.put,gt,Act.put]
  by_cases e:d=t
  ·subst e;rw [if_pos rfl];simpa [Array.getD,hlt] using hv
  ·rw [if_neg e]
   have:=hm t
   simpa [Array.getElem?_setIfInBounds_ne e] using this
theorem put_size (a:Act) (d:Option Nat) (x:Value):(a.put d x).tmps.size=a.tmps.size:=by cases d<;>simp [Act.put]
theorem put_defers (a:Act) (d:Option Nat) (x:Value):(a.put d x).defers=a.defers:=by cases d<;>simp [Act.put]
theorem wanted_sound (hm:RT g w m a) (hs:a.tmps.size=nt) {o:Oper} {gd:Option (Nat × Bool)} (hok:okGd ops nt o.guard gd=true) {b:Bool} (hw:wanted m gd=some b):Region.wanted o (yielded ops a.tmps)=b:=by
 unfold Region.wanted
 cases ho:o.guard with
 |none =>
  cases gd with
  |none=>simpa [wanted] using hw
  |some p=>rw [ho] at hok;simp [okGd] at hok
 |some p =>
  obtain ⟨j,b'⟩:=p
  cases gd with
  |none=>rw [ho] at hok;simp [okGd] at hok
  |some q =>
   obtain ⟨t,c⟩:=q
   rw [ho] at hok
   simp only [okGd,Bool.and_eq_true,beq_iff_eq,decide_eq_true_eq] at hok
   obtain ⟨⟨rfl,h1⟩,h2⟩:=hok
   have ht:=hm t
   have hl:a.tmps[t]? = some (a.tmps.getD t undef):=by
    have:t < a.tmps.size:=by omega
    simp [Array.getD,this]
   simp only [yielded,h1,Option.bind_some,hl]
   simp only [wanted] at hw
   split at hw
   ·rename_i c' hg
    rw [hg] at ht
    rw [R_bool ht]
    simp only [Option.some.injEq] at hw
    subst hw
    simp
   ·rename_i hg
    rw [hg] at ht
    obtain ⟨vs,e1,e2⟩:=R_tup ht
    cases e2
    rw [e1]
    simp only [Option.some.injEq] at hw
    subst hw
    rfl
   ·simp at hw
theorem rops_new (hcal:CalOk P cal):∀ (gs:List G) (id:Nat) (m:Tm) (h:Heap) (nx:Nat) (m':Tm) (h':Heap) (nx':Nat),(∀ j,id ≤ j→j < id + gs.length→hget h j=none)→id + gs.length ≤ nx→Fresh h nx →
  rops cal id gs m h nx=some (m',h',nx') →
  nx ≤ nx'∧∀ i,hget h i=none→(i < id ∨ id + gs.length ≤ i)→(i < nx ∨ nx' ≤ i)→hget h' i=none:=by
 intro gs
 induction gs with
 |nil =>
  intro id m h nx m' h' nx' _ _ _ hr
  simp only [rops,Option.some.injEq,Prod.mk.injEq] at hr
  obtain ⟨rfl,rfl,rfl⟩:=hr
  exact ⟨Nat.le_refl _,fun i hi _ _=>hi⟩
 |cons gg gs ih =>
  intro id m h nx m' h' nx' hn hle hf hr
  simp only [rops] at hr
  obtain ⟨b,hb,hr⟩:=bnd_some hr
  simp only [List.length_cons] at hn hle ⊢
  split at hr
  ·obtain ⟨⟨v1,h1,nx1⟩,k1,hr⟩:=bnd_some hr
   have hr:=(rechk_some hr).1
   obtain ⟨e1,e2⟩:=opg_new hcal (hn id (Nat.le_refl _) (by omega)) hf k1
   obtain ⟨f1,f2⟩:=ih (id + 1) _ h1 nx1 m' h' nx' (fun j hj hj'=>e2 j (hn j (by omega) (by omega)) (by omega) (.inl (by omega))) (by omega) (fun j hj=>e2 j (hf j (by omega)) (by omega) (.inr hj)) hr
   refine ⟨by omega,fun i hi h1 h2=>f2 i (e2 i hi (by omega) (by omega)) (by omega) (by omega)⟩
  ·obtain ⟨f1,f2⟩:=ih (id + 1) _ h nx m' h' nx' (fun j hj hj'=>hn j (by omega) (by omega)) (by omega) hf hr
   exact ⟨by omega,fun i hi h1 h2=>f2 i hi (by omega) (by omega)⟩
theorem okG_dst {o:Oper} {gg:G} (h:okG P ops nt o gg=true):o.dst=gg.dst∧okDst nt gg.dst=true∧okGd ops nt o.guard gg.guard=true∧okO P o.op gg.op=true:=by
 simp only [okG,Bool.and_eq_true,beq_iff_eq] at h
 exact ⟨h.1.1.1,h.1.1.2,h.1.2,h.2⟩
def RegPost (B:Nat) (w0:World) (nt:Nat) (a0:Act) (g0:Gh) (h0:Heap) (wi:World) (N:Nat→Prop) (m':Tm) (h':Heap):Exit→Act→World→Prop:=fun e a' w' =>
 e=.normal∧∃ g',RT g' w' m' a'∧a'.tmps.size=nt∧a'.defers=a0.defers∧Nx B w0 g0 g' h' wi w'∧KNew g0 g' h0 h' N
theorem rops_sound (hcal:CalOk P cal) {r:Option Nat} {n:Nat} {a0:Act} {g0:Gh} {h0:Heap} {wi:World} {N:Nat→Prop}:∀ (gs:List G) (i:Nat) (id:Nat) (m:Tm) (h:Heap) (nx:Nat) (m':Tm) (h':Heap) (nx':Nat) (g:Gh) (w:World) (a:Act),
  okGs P ops nt (ops.toList.drop i) gs=true→rops cal id gs m h nx=some (m',h',nx')→RT g w m a→a.tmps.size=nt→a.defers=a0.defers→Nx B w0 g0 g h wi w →
  (∀ j,id ≤ j→j < id + gs.length→hget h j=none)→id + gs.length ≤ nx→Fresh h nx→KNew g0 g h0 h N→(∀ j,id ≤ j→j < id + gs.length→N j)→(∀ j,nx ≤ j→j < nx'→N j) →
  wpOpsIn (fb r) n P ops (RegPost B w0 nt a0 g0 h0 wi N m' h') (List.range' i gs.length) a w:=by
 intro gs
 induction gs with
 |nil =>
  intro i id m h nx m' h' nx' g w a _ hr hm hs hd hx _ _ _ hkn _ _
  simp only [rops,Option.some.injEq,Prod.mk.injEq] at hr
  obtain ⟨rfl,rfl,rfl⟩:=hr
  exact ⟨rfl,g,hm,hs,hd,hx,hkn⟩
 |cons gg gs ih =>
  intro i id m h nx m' h' nx' g w a hok hr hm hs hd hx hn hle hf hkn hN1 hN2
  have hi:i < ops.size:=by
   rcases Nat.lt_or_ge i ops.size with h1 | h1
   ·exact h1
   ·rw [List.drop_eq_nil_of_le (by simpa using h1)] at hok;simp [okGs] at hok
  have hop:ops[i]? = some ops[i]:=by simp [hi]
  have hdrop:ops.toList.drop i=ops[i]::ops.toList.drop (i + 1):=by
   rw [List.drop_eq_getElem_cons (by simpa using hi)];simp
  rw [hdrop] at hok
  simp only [okGs,Bool.and_eq_true] at hok
  obtain ⟨hok1,hok2⟩:=hok
  obtain ⟨k1,k2,k3,k4⟩:=okG_dst hok1
  simp only [rops] at hr
  obtain ⟨b,hb,hr⟩:=bnd_some hr
  simp only [List.length_cons] at hn hle hN1 ⊢
  have hw:=wanted_sound (ops:=ops) hm hs k3 hb
  rw [show List.range' i (gs.length + 1)=i::List.range' (i + 1) gs.length from rfl,wpOpsIn_cons]
  unfold wpOpIn
  rw [hop]
  simp only [hw]
  generalize ops[i]=o at *
  split at hr
  ·rename_i hbt
   subst hbt
   obtain ⟨⟨v1,h1,nx1⟩,q1,hr⟩:=bnd_some hr
   have hr:=(rechk_some hr).1
   obtain ⟨e1,e2⟩:=opg_new hcal (hn id (Nat.le_refl _) (by omega)) hf q1
   have e5:=(rops_new hcal gs (id + 1) _ h1 nx1 m' h' nx' (fun j hj hj'=>e2 j (hn j (by omega) (by omega)) (by omega) (.inl (by omega))) (by omega) (fun j hj=>e2 j (hf j (by omega)) (by omega) (.inr hj)) hr).1
   simp only [if_true]
   obtain ⟨od,oop,oty,opos,oaft,ogd⟩:=o
   simp only at k1 k3 k4
   refine opg_sound hcal hx.inv hm (hn id (Nat.le_refl _) (by omega)) hf k4 q1 ?_
   intro g1 w1 x hx1 hx2 hx3
   subst k1
   exact ih (i + 1) (id + 1) _ h1 nx1 m' h' nx' g1 w1 _ hok2 hr ((hm.mono hx2.le).put hs k2 hx1) (by rw [put_size];exact hs) (by rw [put_defers];exact hd) (hx.trans hx2)
    (fun j hj hj'=>e2 j (hn j (by omega) (by omega)) (by omega) (.inl (by omega))) (by omega) (fun j hj=>e2 j (hf j (by omega)) (by omega) (.inr hj))
    (fun i hi hk=>by
     have q1:=hkn i hi hk
     have q2:=hx3 i (fun e=>hi (by rcases e with e | e;exact hN1 i (by omega) (by omega);exact hN2 i (by omega) (by omega))) q1.1
     exact ⟨q2.1,q2.2.trans q1.2⟩) (fun j hj hj'=>hN1 j (by omega) (by omega)) (fun j hj hj'=>hN2 j (by omega) hj')
  ·rename_i hbf
   have:b=false:=by simpa using hbf
   subst this
   simp only [Bool.false_eq_true,if_false]
   rw [k1]
   exact ⟨fun _ _=>trivial,ih (i + 1) (id + 1) _ h nx m' h' nx' g w _ hok2 hr (hm.put hs k2 (.tup [] [] .nil)) (by rw [put_size];exact hs) (by rw [put_defers];exact hd) hx
    (fun j hj hj'=>hn j (by omega) (by omega)) (by omega) hf hkn (fun j hj hj'=>hN1 j (by omega) (by omega)) hN2⟩
def okP (P:Program) (op:Op):O→Bool
 |.pn x=>match op with
  |.panic x'=>okX x' x
  |_=>false
 |o=>okO P op o
def okGP (P:Program) (ops:Array Oper) (nt:Nat) (o:Oper) (g:G):Bool :=
 o.dst == g.dst && okDst nt g.dst && okGd ops nt o.guard g.guard && okP P o.op g.op
def okGPs (P:Program) (ops:Array Oper) (nt:Nat):List Oper→List G→Bool
 |[],[]=>true
 |o::os,g::gs=>okGP P ops nt o g && okGPs P ops nt os gs
 |_,_=>false
theorem okGP_dst {o:Oper} {gg:G} (h:okGP P ops nt o gg=true):o.dst=gg.dst∧okDst nt gg.dst=true∧okGd ops nt o.guard gg.guard=true∧okP P o.op gg.op=true:=by
 simp only [okGP,Bool.and_eq_true,beq_iff_eq] at h
 exact ⟨h.1.1.1,h.1.1.2,h.1.2,h.2⟩
theorem okGPs_len:∀ {os:List Oper} {gs:List G},okGPs P ops nt os gs=true→os.length=gs.length:=by
 intro os
 induction os with
 |nil=>intro gs h;cases gs<;>simp [okGPs] at h ⊢
 |cons o os ih=>intro gs h;cases gs with
  |nil=>simp [okGPs] at h
  |cons g gs=>simp only [okGPs,Bool.and_eq_true] at h;simp [ih h.2]
theorem ropsP_cons {cal:Call} {id nx:Nat} {gg:G} {gs:List G} {m:Tm} {h:Heap} {r:Option FV × Tm × Heap × Nat} (hr:ropsP cal id (gg::gs) m h nx=some r) :
  (wanted m gg.guard=some false∧ropsP cal (id + 1) gs (put m gg.dst (.tup [])) h nx=some r) ∨
  (wanted m gg.guard=some true∧(
   (∃ x t q,gg.op=.pn x∧ev m x=.ifc t q∧r=(some (.ifc t q),m,h,nx)) ∨
   (∃ f as u h1 nx1,gg.op=.cl f as∧cal f (evs m as) h nx=some (.pan u,h1,nx1)∧r=(some u,m,h1,nx1)) ∨
   (∃ v h1 nx1,opg (np cal) id ⟨gg.dst,gg.guard,gg.op,[]⟩ m h nx=some (v,h1,nx1)∧ropsP cal (id + 1) gs (put m gg.dst v) h1 nx1=some r))):=by
 obtain ⟨d,gd,o,re⟩:=gg
 simp only [ropsP] at hr
 obtain ⟨b,hb,hr⟩:=bnd_some hr
 cases b with
 |false=>simp only [Bool.false_eq_true,if_false] at hr;exact .inl ⟨hb,hr⟩
 |true =>
  simp only [if_true] at hr
  refine .inr ⟨hb,?_⟩
  split at hr
  ·split at hr
   ·rename_i hx
    simp only [Option.some.injEq] at hr
    exact .inl ⟨_,_,_,rfl,hx,hr.symm⟩
   ·simp at hr
  ·rename_i f as _
   obtain ⟨⟨v,h1,nx1⟩,k1,hr⟩:=bnd_some hr
   simp only at hr
   split at hr
   ·rename_i u
    simp only [Option.some.injEq] at hr
    exact .inr (.inl ⟨f,as,u,h1,nx1,rfl,k1,hr.symm⟩)
   ·rename_i hnp
    refine .inr (.inr ⟨v,h1,nx1,?_,hr⟩)
    simp only [opg,np,k1,bnd]
    have:isPan v=false:=by cases v<;>first | rfl | exact absurd rfl (hnp _)
    simp [chk,this]
  ·obtain ⟨⟨v,h1,nx1⟩,k1,hr⟩:=bnd_some hr
   exact .inr (.inr ⟨v,h1,nx1,k1,hr⟩)
theorem ropsP_new (hcal:CalOkP P cal):∀ (gs:List G) (id:Nat) (m:Tm) (h:Heap) (nx:Nat) (p:Option FV) (m':Tm) (h':Heap) (nx':Nat),(∀ j,id ≤ j→j < id + gs.length→hget h j=none)→id + gs.length ≤ nx→Fresh h nx →
  ropsP cal id gs m h nx=some (p,m',h',nx') →
  nx ≤ nx'∧∀ i,hget h i=none→(i < id ∨ id + gs.length ≤ i)→(i < nx ∨ nx' ≤ i)→hget h' i=none:=by
 intro gs
 induction gs with
 |nil =>
  intro id m h nx p m' h' nx' _ _ _ hr
  simp only [ropsP,Option.some.injEq,Prod.mk.injEq] at hr
  obtain ⟨_,rfl,rfl,rfl⟩:=hr
  exact ⟨Nat.le_refl _,fun i hi _ _=>hi⟩
 |cons gg gs ih =>
  intro id m h nx p m' h' nx' hn hle hf hr
  simp only [List.length_cons] at hn hle ⊢
  rcases ropsP_cons hr with ⟨_,hr⟩ | ⟨_,⟨x,t,q,_,_,hr⟩ | ⟨f,as,u,h1,nx1,_,k1,hr⟩ | ⟨v,h1,nx1,k1,hr⟩⟩
  ·obtain ⟨f1,f2⟩:=ih (id + 1) _ h nx p m' h' nx' (fun j hj hj'=>hn j (by omega) (by omega)) (by omega) hf hr
   exact ⟨by omega,fun i hi h1 h2=>f2 i hi (by omega) (by omega)⟩
  ·cases hr;exact ⟨Nat.le_refl _,fun i hi _ _=>hi⟩
  ·cases hr
   have:=hcal.new _ _ _ _ _ _ _ k1 hf
   exact ⟨this.1,fun i hi _ hx=>this.2 i hi hx⟩
  ·obtain ⟨e1,e2⟩:=opg_new hcal.np (hn id (Nat.le_refl _) (by omega)) hf k1
   obtain ⟨f1,f2⟩:=ih (id + 1) _ h1 nx1 p m' h' nx' (fun j hj hj'=>e2 j (hn j (by omega) (by omega)) (by omega) (.inl (by omega))) (by omega) (fun j hj=>e2 j (hf j (by omega)) (by omega) (.inr hj)) hr
   exact ⟨by omega,fun i hi h1 h2=>f2 i (e2 i hi (by omega) (by omega)) (by omega) (by omega)⟩
def RegPostP (B:Nat) (w0:World) (nt:Nat) (a0:Act) (g0:Gh) (h0:Heap) (wi:World) (N:Nat→Prop) (p:Option FV) (m':Tm) (h':Heap):Exit→Act→World→Prop:=fun e a' w' =>
 ∃ g',RT g' w' m' a'∧a'.tmps.size=nt∧a'.defers=a0.defers∧Nx B w0 g0 g' h' wi w'∧KNew g0 g' h0 h' N ∧
  match p with
  |none=>e=.normal
  |some u=>∃ x,e=.panic [{ v:=x,recovered:=false }]∧R g' w' u x
theorem exec_panic {x':Operand} {dst:Option Tmp} {ty:TypeId} {pos:String} {aft:Array Edge} {gd:Option (Nat × Bool)} {t:Nat} {q:Value} (he:a.eval x'=.iface t q) :
  (execOp a.eval ⟨dst,.panic x',ty,pos,aft,gd⟩).run P w=.halt (.panic (.iface t q)) w:=by
 have:execOp a.eval ⟨dst,.panic x',ty,pos,aft,gd⟩=(do pure (.value (← Instr.panic (a.eval x')))):=rfl
 rw [this,he]
 simp only [Sem.run_bind,show (Instr.panic (.iface t q)).run P w=.halt (.panic (.iface t q)) w from rfl]
 rfl
theorem ropsP_sound (hcal:CalOkP P cal) {r:Option Nat} {n:Nat} {a0:Act} {g0:Gh} {h0:Heap} {wi:World} {N:Nat→Prop}:∀ (gs:List G) (i:Nat) (id:Nat) (m:Tm) (h:Heap) (nx:Nat) (p:Option FV) (m':Tm) (h':Heap) (nx':Nat) (g:Gh) (w:World) (a:Act),
  okGPs P ops nt (ops.toList.drop i) gs=true→ropsP cal id gs m h nx=some (p,m',h',nx')→RT g w m a→a.tmps.size=nt→a.defers=a0.defers→Nx B w0 g0 g h wi w →
  (∀ j,id ≤ j→j < id + gs.length→hget h j=none)→id + gs.length ≤ nx→Fresh h nx→KNew g0 g h0 h N→(∀ j,id ≤ j→j < id + gs.length→N j)→(∀ j,nx ≤ j→j < nx'→N j) →
  wpOpsIn (fb r) n P ops (RegPostP B w0 nt a0 g0 h0 wi N p m' h') (List.range' i gs.length) a w:=by
 intro gs
 induction gs with
 |nil =>
  intro i id m h nx p m' h' nx' g w a _ hr hm hs hd hx _ _ _ hkn _ _
  simp only [ropsP,Option.some.injEq,Prod.mk.injEq] at hr
  obtain ⟨rfl,rfl,rfl,rfl⟩:=hr
  exact ⟨g,hm,hs,hd,hx,hkn,rfl⟩
 |cons gg gs ih =>
  intro i id m h nx p m' h' nx' g w a hok hr hm hs hd hx hn hle hf hkn hN1 hN2
  have hi:i < ops.size:=by
   rcases Nat.lt_or_ge i ops.size with h1 | h1
   ·exact h1
   ·rw [List.drop_eq_nil_of_le (by simpa using h1)] at hok;simp [okGPs] at hok
  have hop:ops[i]? = some ops[i]:=by simp [hi]
  have hdrop:ops.toList.drop i=ops[i]::ops.toList.drop (i + 1):=by
   rw [List.drop_eq_getElem_cons (by simpa using hi)];simp
  rw [hdrop] at hok
  simp only [okGPs,Bool.and_eq_true] at hok
  obtain ⟨hok1,hok2⟩:=hok
  obtain ⟨k1,k2,k3,k4⟩:=okGP_dst hok1
  simp only [List.length_cons] at hn hle hN1 ⊢
  rw [show List.range' i (gs.length + 1)=i::List.range' (i + 1) gs.length from rfl,wpOpsIn_cons]
  unfold wpOpIn
  rw [hop]
  rcases ropsP_cons hr with ⟨hb,hr2⟩ | ⟨hb,hr2⟩
  ·have hw:=wanted_sound (ops:=ops) hm hs k3 hb
   simp only [hw]
   generalize ops[i]=o at *
   simp only [Bool.false_eq_true,if_false]
   rw [k1]
   exact ⟨fun _ _=>trivial,ih (i + 1) (id + 1) _ h nx p m' h' nx' g w _ hok2 hr2 (hm.put hs k2 (.tup [] [] .nil)) (by rw [put_size];exact hs) (by rw [put_defers];exact hd) hx
    (fun j hj hj'=>hn j (by omega) (by omega)) (by omega) hf hkn (fun j hj hj'=>hN1 j (by omega) (by omega)) hN2⟩
  ·have hw:=wanted_sound (ops:=ops) hm hs k3 hb
   simp only [hw]
   generalize ops[i]=o at *
   simp only [if_true]
   obtain ⟨od,oop,oty,opos,oaft,ogd⟩:=o
   simp only at k1 k3 k4
   rcases hr2 with ⟨x,t,q,hgo,e,hr2⟩ | ⟨f,as,u,h1,nx1,hgo,q1,hr2⟩ | ⟨v1,h1,nx1,q1,hr2⟩
   ·simp only [Prod.mk.injEq] at hr2
    obtain ⟨rfl,rfl,rfl,rfl⟩:=hr2
    rw [hgo] at k4
    cases oop<;>simp only [okP,Bool.false_eq_true] at k4
    rename_i x'
    have rx:=R_okX hm k4
    rw [e] at rx
    have:∃ y,a.eval x'=.iface t y:=by generalize a.eval x'=z at rx;cases rx;exact ⟨_,rfl⟩
    obtain ⟨y,hy⟩:=this
    refine ⟨fun _ _=>trivial,?_⟩
    rw [Oper.semAt_eq _ _ _ (by intro c;simp),exec_panic hy]
    refine ⟨g,hm,hs,hd,hx,hkn,.iface t y,rfl,?_⟩
    rw [hy] at rx
    exact rx
   ·simp only [Prod.mk.injEq] at hr2
    obtain ⟨rfl,rfl,rfl,rfl⟩:=hr2
    rw [hgo] at k4
    simp only [okP,okO] at k4
    split at k4
    ·rename_i f2 args2 ts2
     simp only [Bool.and_eq_true,beq_iff_eq,decide_eq_true_eq] at k4
     obtain ⟨⟨rfl,hlt⟩,h2⟩:=k4
     obtain ⟨he,h3⟩:=hcal.fn _ _ _ _ _ _ _ q1 hlt
     obtain ⟨xs,e1,e2⟩:=exec_cl (ts:=ts2) (dst:=od) (ty:=oty) (pos:=opos) (aft:=oaft) (gd:=ogd) (caps:=[]) (cs:=[]) hm he (fo:=.func _) rfl .nil h2
     refine ⟨fun _ _=>trivial,?_⟩
     rw [Oper.semAt_eq _ _ _ (by intro c;simp),e1,Oper.uponIn_enter]
     refine ⟨fun hh=>by simp [fb,Fence.wide] at hh,callsIn_fb ((h3 B w0 g w xs hx.inv hm.gl (by simpa using e2) hf).mono ?_)⟩
     rintro e w' ⟨g',hr,hn',hk⟩
     rcases hr with ⟨x,rfl,hr⟩ | ⟨u',x,hu,rfl,hr⟩
     ·cases hr
     ·cases hu
      refine ⟨g',hm.mono hn'.le,hs,hd,hx.trans hn',fun i hi hki=>?_,x,rfl,hr⟩
      have q1:=hkn i hi hki
      have q2:=hk i (fun e=>hi (hN2 i e.1 e.2)) q1.1
      exact ⟨q2.1,q2.2.trans q1.2⟩
    ·simp at k4
   ·have k4':okO P oop gg.op=true:=by
     cases hg:gg.op<;>rw [hg] at k4<;>first | exact k4 | skip
     rw [hg] at q1
     simp [opg,opv,bnd] at q1
    obtain ⟨e1,e2⟩:=opg_new hcal.np (hn id (Nat.le_refl _) (by omega)) hf q1
    have e5:=(ropsP_new hcal gs (id + 1) _ h1 nx1 p m' h' nx' (fun j hj hj'=>e2 j (hn j (by omega) (by omega)) (by omega) (.inl (by omega))) (by omega) (fun j hj=>e2 j (hf j (by omega)) (by omega) (.inr hj)) hr2).1
    refine opg_sound hcal.np hx.inv hm (hn id (Nat.le_refl _) (by omega)) hf (gg:=⟨gg.dst,gg.guard,gg.op,[]⟩) k4' q1 ?_
    intro g1 w1 x hx1 hx2 hx3
    subst k1
    exact ih (i + 1) (id + 1) _ h1 nx1 p m' h' nx' g1 w1 _ hok2 hr2 ((hm.mono hx2.le).put hs k2 hx1) (by rw [put_size];exact hs) (by rw [put_defers];exact hd) (hx.trans hx2)
     (fun j hj hj'=>e2 j (hn j (by omega) (by omega)) (by omega) (.inl (by omega))) (by omega) (fun j hj=>e2 j (hf j (by omega)) (by omega) (.inr hj))
     (fun i hi hk=>by
      have q1:=hkn i hi hk
      have q2:=hx3 i (fun e=>hi (by rcases e with e | e;exact hN1 i (by omega) (by omega);exact hN2 i (by omega) (by omega))) q1.1
      exact ⟨q2.1,q2.2.trans q1.2⟩) (fun j hj hj'=>hN1 j (by omega) (by omega)) (fun j hj hj'=>hN2 j (by omega) hj')
end
end Go.FI
namespace Go.FI
open Go.RowKit
variable [Sys]
def cls (cm:Nat→Nat):O→Nat
 |.st .. | .ap .. | .mu .. | .dl .. | .cw .. | .ns .. => 2
 |.cl f _=>cm f
 |.bx .. | .al .. | .bs .. | .ms .. | .nl .. | .mm | .rs .. | .ld .. | .lk .. | .cs .. => 1
 |.ln k _=>if k=2 then 1 else 0
 |_=>0
def makes:O→Bool
 |.bx .. | .al .. | .bs .. | .ms .. | .nl .. | .mm | .rs .. => true
 |_=>false
def O.xs:O→List X
 |.mv x | .un _ x | .ln _ x | .cv _ x | .ld _ x | .fa _ x | .fd _ _ x | .nc x | .ex x _ | .mi _ x | .bx _ x | .sn _ x | .cs x | .ta _ _ x | .pn x | .isn _ x | .rs x | .ns x=>[x]
 |.pk a b c=>[a,b,c]
 |.bo _ a b | .be _ a b | .eq _ _ a b | .ix a b | .mx a b | .mn a b | .ia _ a b | .aa _ _ a b | .ms _ _ a b | .st _ a b | .ap _ _ a b | .lk _ _ _ a b | .dl _ a b | .sx a b | .ib a b | .xa _ _ _ a b=>[a,b]
 |.sl _ x lo hi=>x::(lo.toList ++ hi.toList)
 |.bd _ ps=>ps.map fun p=>p.2.2
 |.bs _ _ _ ps=>ps.map fun p=>p.2
 |.mf _ xs | .cl _ xs=>xs
 |.cw f xs=>f::xs
 |.mu _ a b c=>[a,b,c]
 |.al .. | .nl _ | .mm | .bad=>[]
def Sub (h h':Heap):Prop:=∀ i o,hget h i=some o→hget h' i=some o
theorem Sub.refl (h:Heap):Sub h h:=fun _ _ e=>e
theorem Sub.trans {a b c:Heap} (x:Sub a b) (y:Sub b c):Sub a c:=fun i o e=>y i o (x i o e)
def Stable (cal:Call) (cm:Nat→Nat):Prop:=∀ f,cm f ≤ 1→∀ args h nx v h1 nx1,cal f args h nx=some (v,h1,nx1) →
 h1=h∧nx1=nx∧∀ h' nx',(cm f=0 ∨ Sub h h')→cal f args h' nx'=some (v,h',nx')
section
variable {m m':Tm} {h h':Heap} {cal:Call} {cm:Nat→Nat} {v:FV}
theorem evs_congr {xs:List X} (hx:∀ x ∈ xs,ev m x=ev m' x):evs m xs=evs m' xs:=by
 induction xs with
 |nil=>rfl
 |cons x xs ih=>simp only [evs];rw [hx x (by simp),ih fun y hy=>hx y (by simp [hy])]
theorem optInt_congr {d:Int} {x:Option X} (hx:∀ y ∈ x.toList,ev m y=ev m' y):optInt m d x=optInt m' d x:=by
 cases x with
 |none=>rfl
 |some y=>simp only [optInt];rw [hx y (by simp)]
theorem fillCells_congr {ps:List (Nat × Nat × X)} (hx:∀ x ∈ ps.map (fun p=>p.2.2),ev m x=ev m' x) (cs:List FV):fillCells m cs ps=fillCells m' cs ps:=by
 induction ps generalizing cs with
 |nil=>rfl
 |cons p ps ih =>
  obtain ⟨off,sz,x⟩:=p
  simp only [fillCells]
  rw [hx x (by simp),ih fun y hy=>hx y (by simp at hy ⊢; exact .inr hy)]
theorem fillElems_congr {ps:List (Nat × X)} (hx:∀ x ∈ ps.map (fun p=>p.2),ev m x=ev m' x) (es:Nat) (cs:List FV):fillElems m es cs ps=fillElems m' es cs ps:=by
 induction ps generalizing cs with
 |nil=>rfl
 |cons p ps ih =>
  obtain ⟨off,x⟩:=p
  simp only [fillElems]
  rw [hx x (by simp),ih fun y hy=>hx y (by simp at hy ⊢; exact .inr hy)]
theorem slice_congr {es:Nat} {x:FV} {lo hi:Option X} (h1:∀ d,optInt m d lo=optInt m' d lo) (h2:∀ d,optInt m d hi=optInt m' d hi):slice m es x lo hi=slice m' es x lo hi:=by
 unfold slice
 simp only [h1,h2]
theorem opv_congr {o:O} (hx:∀ x ∈ o.xs,ev m x=ev m' x):opv h m o=opv h m' o:=by
 cases o
 case sl es x lo hi =>
  simp only [O.xs,List.mem_cons,List.mem_append] at hx
  simp only [opv]
  rw [hx x (.inl rfl)]
  exact slice_congr (fun d=>optInt_congr fun y hy=>hx y (.inr (.inl hy))) (fun d=>optInt_congr fun y hy=>hx y (.inr (.inr hy)))
 case bd z ps=>simp only [opv];rw [fillCells_congr hx]
 case mf f caps=>simp only [opv];rw [evs_congr (xs:=caps) hx]
 case ln k x =>
  simp [O.xs] at hx
  match k with
  |0=>simp only [opv,hx]
  |1=>simp only [opv,hx]
  |2=>simp only [opv,hx]
  |n + 3=>rfl
 all_goals first
  |rfl
  |(simp [O.xs] at hx;simp only [opv,hx];done)
theorem opn_congr {o:O} {id:Nat} (hx:∀ x ∈ o.xs,ev m x=ev m' x):opn m id o=opn m' id o:=by
 cases o
 case bs es n z ps=>simp only [opn];rw [fillElems_congr hx]
 all_goals first
  |rfl
  |(simp [O.xs] at hx;simp only [opn,hx];done)
theorem opg_congr {id nx:Nat} {gg:G} (hx:∀ x ∈ gg.op.xs,ev m x=ev m' x):opg cal id gg m h nx=opg cal id gg m' h nx:=by
 obtain ⟨d,gd,o⟩:=gg
 have h1:=opv_congr (h:=h) hx
 have h2:=opn_congr (id:=id) hx
 simp only at hx h1 h2
 cases o
 case cl f xs=>simp only [opg];rw [evs_congr (xs:=xs) hx]
 case cw f xs =>
  simp only [O.xs,List.mem_cons] at hx
  simp only [opg];rw [hx f (.inl rfl),evs_congr fun y hy=>hx y (.inr hy)]
 case st=>simp [O.xs] at hx;simp only [opg,hx]
 case ap=>simp [O.xs] at hx;simp only [opg,hx]
 case lk=>simp [O.xs] at hx;simp only [opg,hx]
 case mu=>simp [O.xs] at hx;simp only [opg,hx]
 case dl=>simp [O.xs] at hx;simp only [opg,hx]
 case ns=>simp [O.xs] at hx;simp only [opg,hx]
 all_goals first
  |(simp only [opg];rw [h1];done)
  |(simp only [opg];rw [h2];done)
theorem loadv_sub (hs:Sub h h') {ag:Option Nat} {x:FV} (hv:loadv h ag x=some v):loadv h' ag x=some v:=by
 unfold loadv at hv ⊢
 split at hv
 ·split at hv
  iterate 2
   ·rename_i hg
    rw [hs _ _ hg];exact hv
  ·simp at hv
 ·exact hv
 ·simp at hv
theorem lookup_sub (hs:Sub h h') {kt:Nat} {z k x:FV} {ok:Bool} (hv:lookup h kt z ok k x=some v):lookup h' kt z ok k x=some v:=by
 unfold lookup at hv ⊢
 split at hv
 ·exact hv
 ·split at hv
  ·rename_i hg
   rw [hs _ _ hg];exact hv
  ·simp at hv
 ·simp at hv
theorem elems_sub (hs:Sub h h') {v:FV} {xs:List FV} (he:elems h v=some xs):elems h' v=some xs:=by
 unfold elems at he ⊢
 split at he
 ·exact he
 ·exact he
 ·split at he
  iterate 2
   ·rename_i hg;rw [hs _ _ hg];exact he
  ·simp at he
 ·simp at he
theorem opv_sub {o:O} (hc:cls cm o=0 ∨ Sub h h') (hv:opv h m o=some v):opv h' m o=some v:=by
 cases o
 case ld ag x =>
  simp only [opv] at hv ⊢
  exact loadv_sub (hc.resolve_left (by simp [cls])) hv
 case ln k x =>
  match k with
  |0=>exact hv
  |1=>exact hv
  |2 =>
   have hs:Sub h h':=hc.resolve_left (by simp [cls])
   simp only [opv] at hv ⊢
   split at hv
   ·split at hv
    ·rename_i hg;rw [hs _ _ hg];exact hv
    ·simp at hv
   ·exact hv
   ·simp at hv
  |n + 3=>exact hv
 case cs x =>
  have hs:Sub h h':=hc.resolve_left (by simp [cls])
  simp only [opv] at hv ⊢
  obtain ⟨xs,k1,k2⟩:=bnd_some hv
  have:sliceElems h' (ev m x)=some xs:=by
   unfold sliceElems at k1 ⊢
   split at k1
   ·simp at k1
   ·exact elems_sub hs k1
  rw [this]
  exact k2
 all_goals exact hv
theorem opg_stable (hst:Stable cal cm) {id nx h1 nx1} {gg:G} (hc:cls cm gg.op ≤ 1) (hm:makes gg.op=false) (hv:opg cal id gg m h nx=some (v,h1,nx1)) :
  h1=h∧nx1=nx∧∀ h' nx',(cls cm gg.op=0 ∨ Sub h h')→opg cal id gg m h' nx'=some (v,h',nx'):=by
 obtain ⟨d,gd,o⟩:=gg
 simp only at hc hm
 have plain:(bnd (opv h m o) fun v=>some (v,h,nx))=some (v,h1,nx1)→h1=h∧nx1=nx∧∀ (h':Heap) (nx':Nat),(cls cm o=0 ∨ Sub h h')→(bnd (opv h' m o) fun v=>some (v,h',nx'))=some (v,h',nx'):=by
  intro hv
  obtain ⟨u,k1,k2⟩:=bnd_some hv
  simp only [Option.some.injEq,Prod.mk.injEq] at k2
  obtain ⟨rfl,rfl,rfl⟩:=k2
  refine ⟨rfl,rfl,fun h' nx' hs=>?_⟩
  rw [opv_sub hs k1];rfl
 cases o
 case cl f xs =>
  simp only [opg] at hv ⊢
  exact hst f hc _ _ _ _ _ _ hv
 case cw=>simp [cls] at hc
 case st=>simp [cls] at hc
 case ap=>simp [cls] at hc
 case mu=>simp [cls] at hc
 case dl=>simp [cls] at hc
 case ns=>simp [cls] at hc
 case lk kt z ok x k =>
  simp only [opg] at hv ⊢
  obtain ⟨u,k1,k2⟩:=bnd_some hv
  simp only [Option.some.injEq,Prod.mk.injEq] at k2
  obtain ⟨rfl,rfl,rfl⟩:=k2
  refine ⟨rfl,rfl,fun h' nx' hs=>?_⟩
  rw [lookup_sub (hs.resolve_left (by simp [cls])) k1];rfl
 all_goals first
  |(simp [makes] at hm;done)
  |exact plain hv
theorem opg_makes {id nx h1 nx1} {gg : G} (hm : makes gg.op = true) (hv : opg cal id gg m h nx = some (v, h1, nx1)) :
    ∃ ob, opn m id gg.op = some (ob, v) ∧ h1 = (id, ob) :: h ∧ nx1 = nx := by
  obtain ⟨d, gd, o⟩ := gg
  cases o <;> first
    | (simp [makes] at hm; done)
    | (simp only [opg] at hv
       obtain ⟨⟨ob, u⟩, k1, k2⟩ := bnd_some hv
       simp only [Option.some.injEq, Prod.mk.injEq] at k2
       obtain ⟨rfl, rfl, rfl⟩ := k2
       exact ⟨ob, k1, rfl, rfl⟩)
theorem okNew_of {P:Program} {op:Op} {q:O} (h:okO P op q=true) (hm:makes q=true):okNew P op q=true:=by
 cases q<;>simp_all [okO,makes]
theorem makes_cls {o:O} (hm:makes o=true):cls cm o=1:=by cases o<;>simp_all [makes,cls]
end
end Go.FI
namespace Go.FI
open Go.RowKit
variable [Sys]
def gAt (gs:List G) (i:Nat):G:=gs.getD i default
def psAt (ps:List Nat) (i:Nat):Nat:=ps.getD i 0
def reads (g:G):List Nat :=
 (match g.guard with | some (t,_)=>[t] | none=>[]) ++ g.op.xs.filterMap fun x=>match x with | .t n=>some n | .c _=>none
def edgeMask (ps:List Nat) (m:Nat) (e:Edge):Nat:=if Region.binds .any e=true then m ||| (2 ^ e.on ||| psAt ps e.on) else m
def okEdges (ps:List Nat) (i:Nat) (o:Oper):Bool :=
 psAt ps i == o.after.toList.foldl (edgeMask ps) 0 && o.after.toList.all fun e=>!Region.binds .any e || decide (e.on < i)
def mi (pm:List Nat) (p:Nat):Nat:=pm.getD p 0
def bef (pm ps:List Nat) (i j:Nat):Bool:=(psAt ps (mi pm i)).testBit (mi pm j)
def okLate (gs : List G) (i j : Nat) : Bool :=
  (match (gAt gs j).op, (gAt gs j).dst with
   | .ld ag (.t n), some d => (gAt gs i).re.contains ((gAt gs j).guard, ag, n, d)
   | _, _ => false) &&
  (List.range gs.length).all fun k => match (gAt gs k).dst with
    | some t => !(reads (gAt gs j)).contains t || decide (k < j)
    | none => true
def okPair (cm : Nat → Nat) (gs : List G) (pm ps : List Nat) (i j : Nat) : Bool :=
  let a := gAt gs i
  let b := gAt gs j
  decide (i = j) ||
    (decide (mi pm i ≠ mi pm j) &&
     (match b.dst with
      | some t => (decide (a.dst ≠ some t)) && (!(reads a).contains t || (if j < i then bef pm ps i j else bef pm ps j i))
      | none => true) &&
     (!(cls cm a.op == 2) || cls cm b.op == 0 || (if j < i then makes b.op || bef pm ps i j || okLate gs i j else bef pm ps j i)))
def okDraw (P:Program) (nt:Nat) (cm:Nat→Nat) (ops:Array Oper) (gs:List G) (pm ps:List Nat):Bool :=
 gs.length == ops.size && (List.range gs.length).all fun i=>(match ops[i]? with | some o=>okEdges ps i o | none=>false) && (match ops[mi pm i]? with | some o=>okG P ops nt o (gAt gs i) | none=>false) &&
  pm.contains i && decide (cls cm (gAt gs i).op ≤ 2) && (List.range gs.length).all fun j=>okPair cm gs pm ps i j
structure Tr (cal:Call) (id:Nat) (gs:List G) (M:Nat→Tm) (H:Nat→Heap) (N:Nat→Nat) (V:Nat→FV):Prop where
 step:∀ k,k < gs.length→∃ b,wanted (M k) (gAt gs k).guard=some b ∧
  (b=true→opg cal (id + k) (gAt gs k) (M k) (H k) (N k)=some (V k,H (k + 1),N (k + 1))) ∧
  (b=false→V k=.tup []∧H (k + 1)=H k∧N (k + 1)=N k)∧M (k + 1)=put (M k) (gAt gs k).dst (V k)
 rech:∀ k,k < gs.length→wanted (M k) (gAt gs k).guard=some true→∀ gd ag n d,(gd,ag,n,d) ∈ (gAt gs k).re→wanted (M (k + 1)) gd=some true→still (H (k + 1)) (M (k + 1)) (.ld ag (.t n)) d=true
theorem rops_tr {cal:Call}:∀ (gs:List G) (id:Nat) (m:Tm) (h:Heap) (nx:Nat) (m':Tm) (h':Heap) (nx':Nat),rops cal id gs m h nx=some (m',h',nx') →
  ∃ M H N V,Tr cal id gs M H N V∧M 0=m∧H 0=h∧N 0=nx∧M gs.length=m'∧H gs.length=h'∧N gs.length=nx':=by
 intro gs
 induction gs with
 |nil =>
  intro id m h nx m' h' nx' hr
  simp only [rops,Option.some.injEq,Prod.mk.injEq] at hr
  obtain ⟨rfl,rfl,rfl⟩:=hr
  exact ⟨fun _=>m,fun _=>h,fun _=>nx,fun _=>.undef,⟨fun k hk=>by simp at hk,fun k hk=>by simp at hk⟩,rfl,rfl,rfl,rfl,rfl,rfl⟩
 |cons gg gs ih =>
  intro id m h nx m' h' nx' hr
  simp only [rops] at hr
  obtain ⟨b,hb,hr⟩:=bnd_some hr
  have key:∀ (v:FV) (h1:Heap) (nx1:Nat),rops cal (id + 1) gs (put m gg.dst v) h1 nx1=some (m',h',nx') →
    (b=true→opg cal id gg m h nx=some (v,h1,nx1))→(b=false→v=.tup []∧h1=h∧nx1=nx) →
    (b=true→∀ gd ag n d,(gd,ag,n,d) ∈ gg.re→wanted (put m gg.dst v) gd=some true→still h1 (put m gg.dst v) (.ld ag (.t n)) d=true) →
    ∃ M H N V,Tr cal id (gg::gs) M H N V∧M 0=m∧H 0=h∧N 0=nx∧M (gg::gs).length=m'∧H (gg::gs).length=h'∧N (gg::gs).length=nx':=by
   intro v h1 nx1 hr h1t h1f hre
   obtain ⟨M,H,N,V,ht,e1,e2,e3,e4,e5,e6⟩:=ih _ _ _ _ _ _ _ hr
   have eg:∀ k,gAt (gg::gs) (k + 1)=gAt gs k:=fun k=>by simp [gAt]
   refine ⟨fun k=>match k with | 0=>m | k + 1=>M k,fun k=>match k with | 0=>h | k + 1=>H k,fun k=>match k with | 0=>nx | k + 1=>N k,fun k=>match k with | 0=>v | k + 1=>V k,⟨fun k hk=>?_,fun k hk=>?_⟩,rfl,rfl,rfl,by simpa using e4,by simpa using e5,by simpa using e6⟩
   ·cases k with
    |zero =>
     refine ⟨b,hb,?_,?_,?_⟩
     ·intro hbt;simp only [e2,e3];exact h1t hbt
     ·intro hbf;simp only [e2,e3];exact h1f hbf
     ·simp only [e1];rfl
    |succ k =>
     have hk':k < gs.length:=by simpa using hk
     obtain ⟨b',f1,f2,f3,f4⟩:=ht.step k hk'
     have ei:id + (k + 1)=id + 1 + k:=by omega
     rw [eg,ei]
     exact ⟨b',f1,f2,f3,f4⟩
   ·cases k with
    |zero =>
     intro hw
     have hw':wanted m gg.guard=some true:=hw
     rw [hb] at hw'
     simp only [Option.some.injEq] at hw'
     simp only [e1,e2]
     exact hre hw'
    |succ k =>
     rw [eg]
     exact ht.rech k (by simpa using hk)
  split at hr
  ·rename_i hbt
   obtain ⟨⟨v1,h1,nx1⟩,k1,hr⟩:=bnd_some hr
   obtain ⟨hr,hre⟩:=rechk_some hr
   exact key v1 h1 nx1 hr (fun _=>k1) (fun hf=>by simp_all) (fun _=>hre)
  ·rename_i hbf
   exact key (.tup []) h nx hr (fun ht=>absurd ht hbf) (fun _=>⟨rfl,rfl,rfl⟩) (fun ht=>absurd ht hbf)
section
variable {g g':Gh} {w w':World} {P:Program} {B:Nat} {w0:World} {h h':Heap} {a:Act} {m m':Tm} {v:FV} {ops:Array Oper} {nt:Nat} {cal:Call} {cm:Nat→Nat} {gs:List G} {ps:List Nat}
 {M:Nat→Tm} {H:Nat→Heap} {N:Nat→Nat} {V:Nat→FV} {id:Nat} {pm:List Nat}
theorem mask_spec {j:Nat}:∀ (l:List Edge) (acc:Nat),(l.foldl (edgeMask ps) acc).testBit j=true→acc.testBit j=true ∨ ∃ e ∈ l,Region.binds .any e=true∧(j=e.on ∨ (psAt ps e.on).testBit j=true):=by
 intro l
 induction l with
 |nil=>exact fun acc h=>.inl h
 |cons e l ih =>
  intro acc h
  rcases ih _ h with h1 | ⟨e',h1,h2⟩
  ·unfold edgeMask at h1
   split at h1
   ·rename_i hb
    simp only [Nat.testBit_or,Bool.or_eq_true,Nat.testBit_two_pow,decide_eq_true_eq] at h1
    rcases h1 with h1 | h1 | h1
    ·exact .inl h1
    ·exact .inr ⟨e,by simp,hb,.inl h1.symm⟩
    ·exact .inr ⟨e,by simp,hb,.inr h1⟩
   ·exact .inl h1
  ·exact .inr ⟨e',by simp [h1],h2⟩
structure Draw (P:Program) (nt:Nat) (cm:Nat→Nat) (ops:Array Oper) (gs:List G) (pm ps:List Nat):Prop where
 len:gs.length=ops.size
 edge:∀ i < gs.length,∃ o,ops[i]? = some o∧(∀ j,(psAt ps i).testBit j=true→∃ e ∈ o.after,Region.binds .any e=true∧(j=e.on ∨ (psAt ps e.on).testBit j=true))∧∀ e ∈ o.after,Region.binds .any e=true→e.on < i
 op:∀ i < gs.length,∃ o,ops[mi pm i]? = some o∧okG P ops nt o (gAt gs i)=true
 sur:∀ i < gs.length,∃ p < gs.length,mi pm p=i
 inj:∀ i < gs.length,∀ j < gs.length,mi pm i=mi pm j→i=j
 cl:∀ i < gs.length,cls cm (gAt gs i).op ≤ 2
 dst:∀ i < gs.length,∀ j < gs.length,i ≠ j→∀ t,(gAt gs j).dst=some t→(gAt gs i).dst ≠ some t
 raw:∀ i < gs.length,∀ j < gs.length,j < i→∀ t ∈ reads (gAt gs i),(gAt gs j).dst=some t→bef pm ps i j=true
 war:∀ i < gs.length,∀ j < gs.length,i < j→∀ t ∈ reads (gAt gs i),(gAt gs j).dst=some t→bef pm ps j i=true
 eff1:∀ i < gs.length,∀ j < gs.length,j < i→cls cm (gAt gs i).op=2→cls cm (gAt gs j).op ≠ 0→makes (gAt gs j).op=false→bef pm ps i j=true ∨ okLate gs i j=true
 eff2:∀ i < gs.length,∀ j < gs.length,i < j→cls cm (gAt gs i).op=2→cls cm (gAt gs j).op ≠ 0→bef pm ps j i=true
theorem pigeon:∀ (n:Nat) (pm:List Nat),(∀ i < n,i ∈ pm)→(∀ i < n,∀ j < n,pm.getD i 0=pm.getD j 0→i=j)→(∀ i < n,pm.getD i 0 < n)→∀ i < n,∃ p < n,pm.getD p 0=i:=by
 intro n pm _ hinj hlt
 have key:∀ (k:Nat) (f:Nat→Nat),(∀ i < k,∀ j < k,f i=f j→i=j)→(∀ i < k,f i < k)→∀ i < k,∃ p < k,f p=i:=by
  intro k
  induction k with
  |zero=>intro f _ _ i hi;omega
  |succ k ih =>
   intro f h1 h2 i hi
   by_cases hk:f k=k
   ·by_cases hik:i=k
    ·exact ⟨k,by omega,by rw [hk,hik]⟩
    ·have h3:∀ j < k,f j < k:=fun j hj=>by
      have:=h2 j (by omega)
      have:f j ≠ k:=fun e=>by have:=h1 j (by omega) k (by omega) (by rw [e,hk]);omega
      omega
     obtain ⟨p,hp,e⟩:=ih f (fun a ha b hb=>h1 a (by omega) b (by omega)) h3 i (by omega)
     exact ⟨p,by omega,e⟩
   ·-- swap
    have hfk:f k < k:=by have:=h2 k (by omega);omega
    let g:Nat→Nat:=fun j=>if f j=k then f k else f j
    have hg2:∀ j < k,g j < k:=fun j hj=>by
     show (if f j=k then f k else f j) < k
     split
     ·exact hfk
     ·have:=h2 j (by omega);omega
    have hg1:∀ a < k,∀ b < k,g a=g b→a=b:=fun a ha b hb e=>by
     have e':(if f a=k then f k else f a)=(if f b=k then f k else f b):=e
     split at e'<;>split at e'
     ·rename_i x y;exact h1 a (by omega) b (by omega) (x.trans y.symm)
     ·have:=h1 k (by omega) b (by omega) e';omega
     ·have:=h1 a (by omega) k (by omega) e';omega
     ·exact h1 a (by omega) b (by omega) e'
    by_cases hik:i=k
    ·-- who maps to k? the images under g are below k: f k is met by g at some p
     obtain ⟨p,hp,e⟩:=ih g hg1 hg2 (f k) hfk
     have e':(if f p=k then f k else f p)=f k:=e
     split at e'
     ·rename_i x;exact ⟨p,by omega,by rw [x,hik]⟩
     ·have:=h1 p (by omega) k (by omega) e';omega
    ·by_cases hifk:i=f k
     ·exact ⟨k,by omega,hifk.symm⟩
     ·obtain ⟨p,hp,e⟩:=ih g hg1 hg2 i (by omega)
      have e':(if f p=k then f k else f p)=i:=e
      split at e'
      ·exact absurd e'.symm hifk
      ·exact ⟨p,by omega,e'⟩
 exact key n (fun i=>pm.getD i 0) hinj hlt
theorem draw_of {pm:List Nat} {P:Program} {nt:Nat} (hd:okDraw P nt cm ops gs pm ps=true):Draw P nt cm ops gs pm ps:=by
 unfold okDraw at hd
 simp only [Bool.and_eq_true,beq_iff_eq] at hd
 obtain ⟨hlen,hd⟩:=hd
 have hd':∀ i < gs.length,(match ops[i]? with | some o=>okEdges ps i o | none=>false)=true∧(match ops[mi pm i]? with | some o=>okG P ops nt o (gAt gs i) | none=>false)=true∧pm.contains i=true∧cls cm (gAt gs i).op ≤ 2∧∀ j < gs.length,okPair cm gs pm ps i j=true:=by
  intro i hi
  rw [List.all_eq_true] at hd
  have:=hd i (by simpa using hi)
  simp only [Bool.and_eq_true,decide_eq_true_eq] at this
  refine ⟨this.1.1.1.1,this.1.1.1.2,this.1.1.2,this.1.2,fun j hj=>?_⟩
  have h2:=this.2
  rw [List.all_eq_true] at h2
  exact h2 j (by simpa using hj)
 have hp:∀ i < gs.length,∀ j < gs.length,i ≠ j→mi pm i ≠ mi pm j∧(∀ t,(gAt gs j).dst=some t→(gAt gs i).dst ≠ some t∧(t ∈ reads (gAt gs i)→(if j < i then bef pm ps i j else bef pm ps j i)=true)) ∧
   (cls cm (gAt gs i).op=2→cls cm (gAt gs j).op ≠ 0→(if j < i then makes (gAt gs j).op || bef pm ps i j || okLate gs i j else bef pm ps j i)=true):=by
  intro i hi j hj hne
  have:=(hd' i hi).2.2.2.2 j hj
  simp only [okPair,hne,decide_false,Bool.false_or,Bool.and_eq_true,decide_eq_true_eq] at this
  obtain ⟨⟨h0,h1⟩,h2⟩:=this
  refine ⟨h0,?_,?_⟩
  ·intro t ht
   rw [ht] at h1
   simp only [Bool.and_eq_true,Bool.or_eq_true,Bool.not_eq_true',decide_eq_true_eq] at h1
   refine ⟨h1.1,fun hm=>?_⟩
   rcases h1.2 with h3 | h3
   ·have:(reads (gAt gs i)).contains t=true:=by simpa using hm
    rw [this] at h3;simp at h3
   ·exact h3
  ·intro hc hz
   simp only [Bool.or_eq_true,Bool.not_eq_true',beq_eq_false_iff_ne,beq_iff_eq] at h2
   rcases h2 with (h3 | h3) | h3
   ·exact absurd hc h3
   ·exact absurd h3 hz
   ·exact h3
 have hop:∀ i < gs.length,∃ o,ops[mi pm i]? = some o∧okG P ops nt o (gAt gs i)=true:=by
  intro i hi
  have:=(hd' i hi).2.1
  split at this
  ·exact ⟨_,by assumption,this⟩
  ·simp at this
 have hinj:∀ i < gs.length,∀ j < gs.length,mi pm i=mi pm j→i=j:=fun i hi j hj e=>by
  by_cases hij:i=j
  ·exact hij
  ·exact absurd e (hp i hi j hj hij).1
 refine ⟨hlen,fun i hi=>?_,hop,?_,hinj,fun i hi=>(hd' i hi).2.2.2.1,fun i hi j hj hne t ht=>((hp i hi j hj hne).2.1 t ht).1,?_,?_,?_,?_⟩
 ·have:=(hd' i hi).1
  split at this
  ·rename_i o ho
   simp only [okEdges,Bool.and_eq_true,beq_iff_eq] at this
   refine ⟨o,ho,fun j hj=>?_,fun e he hb=>?_⟩
   ·rw [this.1] at hj
    rcases mask_spec _ _ hj with h1 | ⟨e,h1,h2⟩
    ·simp at h1
    ·exact ⟨e,by simpa using h1,h2⟩
   ·have h2:=this.2
    rw [List.all_eq_true] at h2
    have:=h2 e (by simpa using he)
    simpa [hb] using this
  ·simp at this
 ·refine pigeon gs.length pm (fun i hi=>by simpa using (hd' i hi).2.2.1) hinj fun i hi=>?_
  obtain ⟨o,ho,_⟩:=hop i hi
  have:=(Array.getElem?_eq_some_iff.1 ho).1
  rw [hlen];exact this
 ·intro i hi j hj hlt t ht hdst
  have:=((hp i hi j hj (by omega)).2.1 t hdst).2 ht
  simpa [hlt] using this
 ·intro i hi j hj hlt t ht hdst
  have:=((hp i hi j hj (by omega)).2.1 t hdst).2 ht
  simpa [show ¬ j < i by omega] using this
 ·intro i hi j hj hlt h1 h2 h3
  have:=(hp i hi j hj (by omega)).2.2 h1 h2
  simpa [hlt,h3] using this
 ·intro i hi j hj hlt h1 h2
  have:=(hp i hi j hj (by omega)).2.2 h1 h2
  simpa [show ¬ j < i by omega] using this
theorem tr_facts (hcal:CalOk P cal) (hst:Stable cal cm) (ht:Tr cal id gs M H N V) (hn:∀ j,j < gs.length→hget (H 0) (id + j)=none) (hle:id + gs.length ≤ N 0) (hf:Fresh (H 0) (N 0)) :
  ∀ k,k ≤ gs.length→(∀ j,j < gs.length→(k ≤ j ∨ (makes (gAt gs j).op=false∧cls cm (gAt gs j).op ≤ 1))→hget (H k) (id + j)=none)∧Fresh (H k) (N k)∧N 0 ≤ N k:=by
 intro k
 induction k with
 |zero=>exact fun _=>⟨fun j hj _=>hn j hj,hf,Nat.le_refl _⟩
 |succ k ih =>
  intro hk
  obtain ⟨i1,i2,i3⟩:=ih (by omega)
  obtain ⟨b,s1,s2,s3,s4⟩:=ht.step k (by omega)
  cases b with
  |false =>
   obtain ⟨_,e1,e2⟩:=s3 rfl
   rw [e1,e2]
   exact ⟨fun j hj hc=>i1 j hj (by rcases hc with hc | hc;exact .inl (by omega);exact .inr hc),i2,i3⟩
  |true =>
   have e1:=s2 rfl
   obtain ⟨f1,f2⟩:=opg_new hcal (i1 k (by omega) (.inl (Nat.le_refl _))) i2 e1
   refine ⟨fun j hj hc=>?_,fun i hi=>f2 i (i2 i (by omega)) (by omega) (.inr hi),by omega⟩
   by_cases hjk:j=k
   ·subst hjk
    rcases hc with hc | hc
    ·omega
    ·rw [(opg_stable hst hc.2 hc.1 e1).1];exact i1 j hj (.inr hc)
   ·exact f2 _ (i1 j hj (by rcases hc with hc | hc;exact .inl (by omega);exact .inr hc)) (by omega) (.inl (by omega))
theorem tr_sub1 (hst:Stable cal cm) (ht:Tr cal id gs M H N V) (hn:∀ k < gs.length,hget (H k) (id + k)=none) {k:Nat} (hk:k < gs.length) (hc:cls cm (gAt gs k).op ≤ 1):Sub (H k) (H (k + 1)):=by
 obtain ⟨b,s1,s2,s3,s4⟩:=ht.step k hk
 cases b with
 |false=>rw [(s3 rfl).2.1];exact Sub.refl _
 |true =>
  by_cases hm:makes (gAt gs k).op=true
  ·obtain ⟨ob,e1,e2,e3⟩:=opg_makes hm (s2 rfl)
   rw [e2]
   intro i o ho
   rw [hget_cons,if_neg (fun e=>by subst e;rw [hn k hk] at ho;cases ho)]
   exact ho
  ·rw [(opg_stable hst hc (by simpa using hm) (s2 rfl)).1];exact Sub.refl _
theorem tr_sub (hst:Stable cal cm) (ht:Tr cal id gs M H N V) (hn:∀ k < gs.length,hget (H k) (id + k)=none) {s e:Nat} (he:e ≤ gs.length) (hc:∀ j,s ≤ j→j < e→cls cm (gAt gs j).op ≤ 1) :
  ∀ n k,e=k + n→s ≤ k→Sub (H k) (H e):=by
 intro n
 induction n with
 |zero=>intro k hk _;rw [hk];exact Sub.refl _
 |succ n ih=>intro k hk hs;exact (tr_sub1 hst ht hn (by omega) (hc k hs (by omega))).trans (ih (k + 1) (by omega) (by omega))
theorem tr_out (hst:Stable cal cm) (ht:Tr cal id gs M H N V) (hn:∀ k < gs.length,hget (H k) (id + k)=none) {s e:Nat} (he:e ≤ gs.length) (hc:∀ j,s ≤ j→j < e→cls cm (gAt gs j).op ≤ 1) (i:Nat) (hi:∀ j,s ≤ j→j < e→i ≠ id + j) :
  ∀ n k,e=k + n→s ≤ k→hget (H e) i=hget (H k) i:=by
 intro n
 induction n with
 |zero=>intro k hk _;rw [hk];rfl
 |succ n ih =>
  intro k hk hs
  rw [ih (k + 1) (by omega) (by omega)]
  obtain ⟨b,s1,s2,s3,s4⟩:=ht.step k (by omega)
  cases b with
  |false=>rw [(s3 rfl).2.1]
  |true =>
   by_cases hm:makes (gAt gs k).op=true
   ·obtain ⟨ob,e1,e2,e3⟩:=opg_makes hm (s2 rfl)
    rw [e2,hget_cons,if_neg (hi k hs (by omega))]
   ·rw [(opg_stable hst (hc k hs (by omega)) (by simpa using hm) (s2 rfl)).1]
theorem seg_end (cm:Nat→Nat) (gs:List G):∀ n s,s + n=gs.length→∃ e,s ≤ e∧e ≤ gs.length∧(∀ j,s ≤ j→j < e→cls cm (gAt gs j).op ≠ 2)∧(e=gs.length ∨ cls cm (gAt gs e).op=2):=by
 intro n
 induction n with
 |zero=>intro s hs;exact ⟨s,Nat.le_refl _,by omega,fun j h1 h2=>by omega,.inl (by omega)⟩
 |succ n ih =>
  intro s hs
  by_cases hc:cls cm (gAt gs s).op=2
  ·exact ⟨s,Nat.le_refl _,by omega,fun j h1 h2=>by omega,.inr hc⟩
  ·obtain ⟨e,h1,h2,h3,h4⟩:=ih (s + 1) (by omega)
   refine ⟨e,by omega,h2,fun j h5 h6=>?_,h4⟩
   by_cases hj:j=s
   ·subst hj;exact hc
   ·exact h3 j (by omega) h6
theorem tr_val (hD:Draw P nt cm ops gs pm ps) (ht:Tr cal id gs M H N V) (t:Nat):∀ j,j ≤ gs.length→(∀ k,k < j→(gAt gs k).dst=some t→gt (M j) t=V k)∧((∀ k,k < j→(gAt gs k).dst ≠ some t)→gt (M j) t=gt (M 0) t):=by
 intro j
 induction j with
 |zero=>exact fun _=>⟨fun k hk=>by omega,fun _=>rfl⟩
 |succ j ih =>
  intro hj
  obtain ⟨i1,i2⟩:=ih (by omega)
  obtain ⟨b,s1,s2,s3,s4⟩:=ht.step j (by omega)
  rw [s4]
  constructor
  ·intro k hk hd
   by_cases hkj:k=j
   ·subst hkj;rw [hd];simp [put,gt]
   ·have hne:=hD.dst j (by omega) k (by omega) (fun e=>hkj e.symm) t hd
    rw [← i1 k (by omega) hd]
    cases hdj:(gAt gs j).dst with
    |none=>rfl
    |some d =>
     simp only [put,gt]
     rw [if_neg (fun e=>hne (by rw [hdj,e]))]
  ·intro hno
   rw [← i2 fun k hk=>hno k (by omega)]
   have hne:=hno j (by omega)
   cases hdj:(gAt gs j).dst with
   |none=>rfl
   |some d =>
    simp only [put,gt]
    rw [if_neg (fun e=>hne (by rw [hdj,e]))]
theorem gt_keepOf (m:Tm) (t:Nat):∀ ts:List Nat,t ∈ ts→gt (keepOf m ts) t=gt m t:=by
 intro ts
 induction ts with
 |nil=>simp
 |cons u ts ih =>
  intro hm
  simp only [keepOf,gt]
  by_cases e:u=t
  ·subst e;simp
  ·rw [if_neg e]
   simp only [List.mem_cons] at hm
   exact ih (hm.resolve_left fun x=>e x.symm)
theorem gt_keepOf_not (m:Tm) (t:Nat):∀ ts:List Nat,t ∉ ts→gt (keepOf m ts) t=.undef:=by
 intro ts
 induction ts with
 |nil=>intro _;rfl
 |cons u ts ih =>
  intro hm
  simp only [List.mem_cons,not_or] at hm
  simp only [keepOf,gt]
  rw [if_neg (fun e=>hm.1 e.symm)]
  exact ih hm.2
theorem Inv.sub (hI:Inv B w0 g h w) (hs:Sub h h'):Inv B w0 g h' w :=
 ⟨fun i l hl=>by obtain ⟨o,ho⟩:=hI.dom i l hl;exact ⟨o,hs i o ho⟩,fun i o l ho hl=>by
  obtain ⟨o2,ho2⟩:=hI.dom i l hl
  have:=hs i o2 ho2
  rw [ho] at this;cases this
  exact hI.obj i o l ho2 hl,hI.inj,fun i l b hl hb=>by
  obtain ⟨o2,ho2⟩:=hI.dom i l hl
  have:=hI.own i l b hl hb
  rw [hs i o2 ho2,← ho2];exact this,hI.zlt,hI.below,hI.size⟩
structure TS (g:Gh) (w:World) (a:Act) (gs:List G) (V:Nat→FV) (m:Tm) (S:Nat→Prop):Prop where
 tm1:∀ j < gs.length,S j→∀ d,(gAt gs j).dst=some d→R g w (V j) (a.tmps.getD d undef)
 tm0:∀ t,(∀ j < gs.length,S j→(gAt gs j).dst ≠ some t)→R g w (gt m t) (a.tmps.getD t undef)
 gl:GlOk g w
theorem TS.put (hD:Draw P nt cm ops gs pm ps) {S S':Nat→Prop} (hT:TS g w a gs V m S) (hs:a.tmps.size=nt) {j:Nat} (hj:j < gs.length) (hS:∀ k,S' k ↔ S k ∨ k=j) (hd:okDst nt (gAt gs j).dst=true) (hg:GLe g g' w w') {x:Value} (hx:R g' w' (V j) x) :
  TS g' w' (a.put (gAt gs j).dst x) gs V m S':=by
 have same:∀ t,(gAt gs j).dst ≠ some t→(a.put (gAt gs j).dst x).tmps.getD t undef=a.tmps.getD t undef:=by
  intro t ht
  cases hdj:(gAt gs j).dst with
  |none=>rfl
  |some d =>
   have:d ≠ t:=fun e=>ht (by rw [hdj,e])
   simp [Act.put,Array.getElem?_setIfInBounds_ne this]
 constructor
 ·intro k hk hSk d hdk
  by_cases hkj:k=j
  ·subst hkj
   rw [hdk] at hd ⊢
   have hlt:d < a.tmps.size:=by simp [okDst] at hd;omega
   simpa [Act.put,Array.getD,hlt] using hx
  ·have hSk':S k:=((hS k).1 hSk).resolve_right hkj
   rw [same d (hD.dst j hj k hk (fun e=>hkj e.symm) d hdk)]
   exact (hT.tm1 k hk hSk' d hdk).mono hg
 ·intro t hno
  rw [same t (hno j hj ((hS j).2 (.inr rfl)))]
  exact (hT.tm0 t fun k hk hSk=>hno k hk ((hS k).2 (.inl hSk))).mono hg
 ·exact fun k cs hk=>(hT.gl k cs hk).mono hg
structure Ready (gs:List G) (pm ps:List Nat) (S:Nat→Prop) (j:Nat):Prop where
 lt:j < gs.length
 nin:¬ S j
 pred:∀ i < gs.length,bef pm ps j i=true→S i
 dc:∀ k < gs.length,S k→∀ i < gs.length,bef pm ps k i=true→S i
theorem TS.read (hD:Draw P nt cm ops gs pm ps) (ht:Tr cal id gs M H N V) {S:Nat→Prop} (hT:TS g w a gs V (M 0) S) {j:Nat} (hr:Ready gs pm ps S j):RT g w (keepOf (M j) (reads (gAt gs j))) a:=by
 refine ⟨fun t=>?_,hT.gl⟩
 by_cases hm:t ∈ reads (gAt gs j)
 ·rw [gt_keepOf _ _ _ hm]
  obtain ⟨v1,v2⟩:=tr_val hD ht t j (Nat.le_of_lt hr.lt)
  by_cases hex:∃ k,k < j∧(gAt gs k).dst=some t
  ·obtain ⟨k,hk,hd⟩:=hex
   rw [v1 k hk hd]
   have hkl:k < gs.length:=by have:=hr.lt;omega
   exact hT.tm1 k hkl (hr.pred k hkl (hD.raw j hr.lt k hkl hk t hm hd)) t hd
  ·rw [v2 fun k hk hd=>hex ⟨k,hk,hd⟩]
   refine hT.tm0 t fun k hk hSk hd=>?_
   rcases Nat.lt_trichotomy k j with h1 | h1 | h1
   ·exact hex ⟨k,h1,hd⟩
   ·subst h1;exact hr.nin hSk
   ·exact hr.nin (hr.dc k hk hSk j hr.lt (hD.war j hr.lt k hk h1 t hm hd))
 ·rw [gt_keepOf_not _ _ _ hm];exact .undef _
theorem ev_keepOf (m:Tm) (gg:G):∀ x ∈ gg.op.xs,ev (keepOf m (reads gg)) x=ev m x:=by
 intro x hx
 cases x with
 |c v=>rfl
 |t n =>
  simp only [ev]
  refine gt_keepOf _ _ _ ?_
  unfold reads
  rw [List.mem_append]
  exact .inr (List.mem_filterMap.2 ⟨.t n,hx,rfl⟩)
theorem wanted_keepOf (m:Tm) (gg:G):wanted (keepOf m (reads gg)) gg.guard=wanted m gg.guard:=by
 cases hg:gg.guard with
 |none=>rfl
 |some p =>
  obtain ⟨t,b⟩:=p
  simp only [wanted]
  rw [gt_keepOf _ _ _ (by simp [reads,hg])]
structure DI (B:Nat) (w0:World) (nt:Nat) (a0:Act) (g0:Gh) (wi:World) (NN:Nat→Prop) (id:Nat) (cm:Nat→Nat) (gs:List G) (cal:Call) (M:Nat→Tm) (N:Nat→Nat) (H:Nat→Heap) (V:Nat→FV) (m:Tm) (S:Nat→Prop) (s e:Nat) (g:Gh) (a:Act) (w:World):Prop where
 se:s ≤ e
 el:e ≤ gs.length
 seg:∀ j,s ≤ j→j < e→cls cm (gAt gs j).op ≠ 2
 fin:e=gs.length ∨ cls cm (gAt gs e).op=2
 pa:∀ j < s,cls cm (gAt gs j).op=2→S j
 pb:∀ j < gs.length,cls cm (gAt gs j).op=2→S j→j < s
 ts:TS g w a gs V m S
 kn:∀ j < gs.length,makes (gAt gs j).op=true→¬ S j→g.κ (id + j)=none
 pl:∀ j < e,makes (gAt gs j).op=true→¬ S j→∀ ob,hget (H (j + 1)) (id + j)=some ob→hget (H e) (id + j)=some ob
 pr:∀ j < e,cls cm (gAt gs j).op=1→makes (gAt gs j).op=false→¬ S j→wanted (M j) (gAt gs j).guard=some true→opg cal (id + j) (gAt gs j) (M j) (H e) (N e)=some (V j,H e,N e)
 kN:KNew g0 g (H 0) (H e) NN
 nx:Nx B w0 g0 g (H e) wi w
 size:a.tmps.size=nt
 defers:a.defers=a0.defers
theorem draw_step (hcal:CalOk P cal) (hst:Stable cal cm) (hD:Draw P nt cm ops gs pm ps) (ht:Tr cal id gs M H N V) (hn:∀ j,j < gs.length→hget (H 0) (id + j)=none) (hle:id + gs.length ≤ N 0) (hf:Fresh (H 0) (N 0))
  {r:Option Nat} {n:Nat} {a0:Act} {g0:Gh} {wi:World} {NN:Nat→Prop} (hN1:∀ j,id ≤ j→j < id + gs.length→NN j) (hN2:∀ k < gs.length,∀ j,N k ≤ j→j < N (k + 1)→NN j)
  {S S':Nat→Prop} {s e j:Nat} (hS:∀ k,S' k ↔ S k ∨ k=j) (hI:DI B w0 nt a0 g0 wi NN id cm gs cal M N H V (M 0) S s e g a w) (hr:Ready gs pm ps S j) {Q:Exit→Act→World→Prop} {K:Act→World→Prop}
  (hK:∀ s' e' g' a' w',DI B w0 nt a0 g0 wi NN id cm gs cal M N H V (M 0) S' s' e' g' a' w'→K a' w'):wpOpIn (fb r) n P ops Q (mi pm j) K a w:=by
 obtain ⟨o,ho,hokj⟩:=hD.op j hr.lt
 obtain ⟨k1,k2,k3,k4⟩:=okG_dst hokj
 have hm:=hI.ts.read hD ht hr
 have facts:=tr_facts hcal hst ht hn hle hf
 have hnk:∀ k < gs.length,hget (H k) (id + k)=none:=fun k hk=>(facts k (by omega)).1 k hk (.inl (Nat.le_refl _))
 obtain ⟨b,s1,s2,s3,s4⟩:=ht.step j hr.lt
 have hw:=wanted_sound (ops:=ops) hm hI.size k3 (by rw [wanted_keepOf];exact s1)
 have low:∀ {s e:Nat},e ≤ gs.length→(∀ j,s ≤ j→j < e→cls cm (gAt gs j).op ≠ 2)→∀ j,s ≤ j→j < e→cls cm (gAt gs j).op ≤ 1:=fun he h j h1 h2=>by
  have:=hD.cl j (by omega);have:=h j h1 h2;omega
 have hjs:cls cm (gAt gs j).op=2→s ≤ j:=fun hc=>by
  rcases Nat.lt_or_ge j s with h1 | h1
  ·exact absurd (hI.pa j h1 hc) hr.nin
  ·exact h1
 have mk2:∀ j,cls cm (gAt gs j).op=2→makes (gAt gs j).op=false:=fun j hc=>by
  cases hmk:makes (gAt gs j).op with
  |false=>rfl
  |true=>rw [makes_cls hmk] at hc;omega
 have hje:cls cm (gAt gs j).op ≠ 0→j ≤ e:=fun hc=>by
  rcases Nat.lt_or_ge e j with h1 | h1
  ·have hel:e < gs.length:=by have:=hr.lt;omega
   have h2:=hI.fin.resolve_left (by omega)
   have:=hr.pred e hel (hD.eff2 e hel j hr.lt h1 h2 hc)
   have:=hI.pb e hel h2 this
   have:=hI.se;omega
  ·exact h1
 have hlate:∀ k < e,makes (gAt gs k).op=true→¬ S k→∀ ob,hget (H (k + 1)) (id + k)=some ob→hget (H e) (id + k)=some ob:=fun k hk hmk hSk ob hob=>hI.pl k hk hmk hSk ob hob
 have calm:cls cm (gAt gs j).op ≠ 2→∀ g' w' x,R g' w' (V j) x→Nx B w0 g g' (H e) w w'→KNew g g' (H e) (H e) (· = id + j)→K (a.put o.dst x) w':=by
  intro hc g' w' x hx hnx hkn
  rw [k1]
  refine hK s e g' _ w' ⟨hI.se,hI.el,hI.seg,hI.fin,fun k hk hck=>(hS k).2 (.inl (hI.pa k hk hck)),fun k hk hck hSk=>?_,hI.ts.put hD hI.size hr.lt hS k2 hnx.le hx,fun k h2 hmk h3=>?_,fun k hk hmk h3=>hI.pl k hk hmk fun h=>h3 ((hS k).2 (.inl h)),fun k hk h1 h2 h3=>hI.pr k hk h1 h2 fun h=>h3 ((hS k).2 (.inl h)),fun i hi hk=>?_,hI.nx.trans hnx,by rw [put_size];exact hI.size,by rw [put_defers];exact hI.defers⟩
  ·rcases (hS k).1 hSk with h1 | h1
   ·exact hI.pb k hk hck h1
   ·subst h1;exact absurd hck hc
  ·have hkj:k ≠ j:=fun e=>h3 ((hS k).2 (.inr e))
   exact (hkn _ (by omega) (hI.kn k h2 hmk fun h=>h3 ((hS k).2 (.inl h)))).1
  ·have q1:=hI.kN i hi hk
   exact ⟨(hkn i (fun e=>hi (e ▸ hN1 _ (by omega) (by have:=hr.lt;omega))) q1.1).1,q1.2⟩
 have loud:cls cm (gAt gs j).op=2→j=e→∀ g' w' x,R g' w' (V j) x→Nx B w0 g g' (H (j + 1)) w w'→KNew g g' (H j) (H (j + 1)) (fun i=>i=id + j ∨ N j ≤ i∧i < N (j + 1))→K (a.put o.dst x) w':=by
  intro hc hej g' w' x hx hnx hkn
  subst hej
  rw [k1]
  have hlt:=hr.lt
  have hNj:=(facts j (by omega)).2.2
  obtain ⟨e',q1,q2,q3,q4⟩:=seg_end cm gs (gs.length - (j + 1)) (j + 1) (by omega)
  have hsub:Sub (H (j + 1)) (H e'):=tr_sub hst ht hnk q2 (low q2 q3) (e' - (j + 1)) (j + 1) (by omega) (Nat.le_refl _)
  have hnx2:Nx B w0 g g' (H e') w w':=⟨hnx.inv.sub hsub,hnx.le,hnx.z,hnx.sz⟩
  refine hK (j + 1) e' g' _ w' ⟨q1,q2,q3,q4,fun k hk hck=>?_,fun k hk hck hSk=>?_,hI.ts.put hD hI.size hr.lt hS k2 hnx.le hx,fun k h2 hmk h3=>?_,fun k hk hmk h3 ob hob=>?_,fun k hk hck hmk h3 hwk=>?_,fun i hi hk=>?_,hI.nx.trans hnx2,by rw [put_size];exact hI.size,by rw [put_defers];exact hI.defers⟩
  ·by_cases hkj:k=j
   ·exact (hS k).2 (.inr hkj)
   ·rcases hD.eff1 j hlt k (by omega) (by omega) hc (by omega) (mk2 k hck) with hb | hb
    ·exact (hS k).2 (.inl (hr.pred k (by omega) hb))
    ·unfold okLate at hb
     simp only [Bool.and_eq_true] at hb
     have:=hb.1
     split at this
     ·rename_i ho1 _;rw [ho1] at hck;simp [cls] at hck
     ·simp at this
  ·rcases (hS k).1 hSk with h1 | h1
   ·have:=hI.pb k hk hck h1;have:=hI.se;omega
   ·omega
  ·have hkj:k ≠ j:=fun e=>h3 ((hS k).2 (.inr e))
   exact (hkn _ (by omega) (hI.kn k h2 hmk fun h=>h3 ((hS k).2 (.inl h)))).1
  ·have hkj:k ≠ j:=fun e=>h3 ((hS k).2 (.inr e))
   rcases Nat.lt_or_ge k j with h1 | h1
   ·have hSk:¬ S k:=fun h=>h3 ((hS k).2 (.inl h))
    have h4:=hlate k h1 hmk hSk ob hob
    have h5:=(hkn (id + k) (by omega) (hI.kn k (by omega) hmk hSk)).2
    exact hsub _ _ (by rw [h5];exact h4)
   ·exact (tr_sub hst ht hnk q2 (low q2 q3) (e' - (k + 1)) (k + 1) (by omega) (by omega)) _ _ hob
  ·-- a load that may still come
   have hsub2:∀ h1:Heap,Sub h1 (H e')→∀ nx1,opg cal (id + k) (gAt gs k) (M k) h1 nx1=some (V k,h1,nx1)→opg cal (id + k) (gAt gs k) (M k) (H e') (N e')=some (V k,H e',N e'):=fun h1 hs1 nx1 ho1 =>
    (opg_stable hst (by omega) hmk ho1).2.2 _ _ (.inr hs1)
   have hSk:¬ S k:=fun h=>h3 ((hS k).2 (.inl h))
   rcases Nat.lt_or_ge k j with h1 | h1
   ·have hold:=hI.pr k h1 hck hmk hSk hwk
    obtain ⟨b,t1,t2,t3,t4⟩:=ht.step j hlt
    cases b with
    |false=>exact hsub2 (H j) (by rw [← (t3 rfl).2.1];exact hsub) (N j) hold
    |true =>
     rcases hD.eff1 j hlt k (by omega) h1 hc (by omega) hmk with hb | hb
     ·exact absurd (hr.pred k (by omega) hb) hSk
     ·unfold okLate at hb
      simp only [Bool.and_eq_true] at hb
      obtain ⟨hb1,hb2⟩:=hb
      split at hb1
      ·rename_i ag n d ho1 hd1
       have hmem:((gAt gs k).guard,ag,n,d) ∈ (gAt gs j).re:=by simpa using hb1
       have hrd:∀ t ∈ reads (gAt gs k),gt (M (j + 1)) t=gt (M k) t:=by
        intro t htr
        obtain ⟨v1,v2⟩:=tr_val hD ht t (j + 1) (by omega)
        obtain ⟨v3,v4⟩:=tr_val hD ht t k (by omega)
        by_cases hex:∃ q,q < k∧(gAt gs q).dst=some t
        ·obtain ⟨q,hq,hqd⟩:=hex
         rw [v1 q (by omega) hqd,v3 q hq hqd]
        ·rw [v4 fun q hq hqd=>hex ⟨q,hq,hqd⟩,v2 fun q hq hqd=>?_]
         rw [List.all_eq_true] at hb2
         have:=hb2 q (by simp;omega)
         rw [hqd] at this
         have hcon:(reads (gAt gs k)).contains t=true:=by simpa using htr
         simp only [hcon,Bool.not_true,Bool.false_or,decide_eq_true_eq] at this
         exact hex ⟨q,this,hqd⟩
       have hw2:wanted (M (j + 1)) (gAt gs k).guard=some true:=by
        rw [← hwk]
        cases hgd:(gAt gs k).guard with
        |none=>rfl
        |some p =>
         obtain ⟨t,b⟩:=p
         simp only [wanted]
         rw [hrd t (by simp [reads,hgd])]
       have hst2:=still_some (ht.rech j hlt t1 _ _ _ _ hmem hw2)
       have hval:gt (M (j + 1)) d=V k:=(tr_val hD ht d (j + 1) (by omega)).1 k (by omega) hd1
       rw [hval] at hst2
       have hev:opv (H (j + 1)) (M k) (gAt gs k).op=some (V k):=by
        rw [ho1,← hst2]
        refine opv_congr fun x hx=>?_
        simp only [O.xs,List.mem_singleton] at hx
        subst hx
        simp only [ev]
        exact (hrd n (by simp [reads,ho1,O.xs])).symm
       refine hsub2 (H (j + 1)) hsub (N (j + 1)) ?_
       unfold opg
       rw [ho1] at hev ⊢
       simp only [hev,bnd]
      ·simp at hb1
   ·obtain ⟨b,t1,t2,t3,t4⟩:=ht.step k (by omega)
    rw [hwk] at t1
    simp only [Option.some.injEq] at t1
    subst t1
    exact (opg_stable hst (by omega) hmk (t2 rfl)).2.2 _ _ (.inr ((tr_sub1 hst ht hnk (by omega) (by omega)).trans (tr_sub hst ht hnk q2 (low q2 q3) (e' - (k + 1)) (k + 1) (by omega) (by omega))))
  ·have r1:=hI.kN i hi hk
   have r2:=hkn i (fun ee=>hi (by
    rcases ee with ee | ee
    ·exact ee ▸ hN1 _ (by omega) (by omega)
    ·exact hN2 j hlt i ee.1 ee.2)) r1.1
   refine ⟨r2.1,?_⟩
   rw [tr_out hst ht hnk q2 (low q2 q3) i (fun k h1 h2 e=>hi (e ▸ hN1 _ (by omega) (by omega))) (e' - (j + 1)) (j + 1) (by omega) (Nat.le_refl _),r2.2,r1.2]
 unfold wpOpIn
 rw [ho]
 simp only [hw]
 have heq:cls cm (gAt gs j).op=2→j=e:=fun hc=>by
  have h1:=hjs hc
  have h2:=hje (by omega)
  rcases Nat.lt_or_ge j e with h3 | h3
  ·exact absurd hc (hI.seg j h1 h3)
  ·omega
 cases b with
 |false =>
  obtain ⟨e1,e2,e3⟩:=s3 rfl
  simp only [Bool.false_eq_true,if_false]
  refine ⟨fun _ _=>trivial,?_⟩
  by_cases hc:cls cm (gAt gs j).op=2
  ·have hej:=heq hc
   have hIe:=hI.nx.inv
   rw [← hej] at hIe
   exact loud hc hej g w undef (by rw [e1];exact .tup [] [] .nil) (by rw [e2];exact .refl hIe) (fun _ _ h=>⟨h,by rw [e2]⟩)
  ·exact calm hc g w undef (by rw [e1];exact .tup [] [] .nil) (.refl hI.nx.inv) (fun _ _ h=>⟨h,rfl⟩)
 |true =>
  have e1:=s2 rfl
  simp only [if_true]
  have e1':opg cal (id + j) (gAt gs j) (keepOf (M j) (reads (gAt gs j))) (H j) (N j)=some (V j,H (j + 1),N (j + 1)):=by
   rw [opg_congr (ev_keepOf _ _)];exact e1
  obtain ⟨od,oop,oty,opos,oaft,ogd⟩:=o
  simp only at k1 k3 k4 calm loud
  by_cases hc:cls cm (gAt gs j).op=2
  ·have hej:=heq hc
   have hIe:=hI.nx.inv
   rw [← hej] at hIe
   exact opg_sound hcal hIe hm (hnk j hr.lt) (facts j (by have:=hr.lt;omega)).2.1 k4 e1' fun g' w' x f1 f2 f3=>loud hc hej g' w' x f1 f2 f3
  ·have hcl:cls cm (gAt gs j).op ≤ 1:=by have:=hD.cl j hr.lt;omega
   by_cases hmk:makes (gAt gs j).op=true
   ·have hc0:cls cm (gAt gs j).op ≠ 0:=by rw [makes_cls hmk];omega
    have h2:=hje hc0
    have hlt:j < e:=by
     rcases Nat.lt_or_ge j e with h3 | h3
     ·exact h3
     ·have hjeq:j=e:=by omega
      have hlt:=hr.lt
      exact absurd (hjeq ▸ hI.fin.resolve_left (by omega)) hc
    obtain ⟨ob,f1,f2,f3⟩:=opg_makes hmk e1'
    have hob:hget (H e) (id + j)=some ob:=hlate j hlt hmk hr.nin ob (by rw [f2,hget_cons,if_pos rfl])
    have hq:∀ i,hget (H e) i=if i=id + j then some ob else hget (H e) i:=fun i=>by
     split
     ·rename_i ee;rw [ee];exact hob
     ·rfl
    have hok2:okNew P oop (gAt gs j).op=true:=okNew_of k4 hmk
    exact wp_does hI.nx.inv (okO_defer k4) (opn_sound hI.nx.inv hm (hI.kn j hr.lt hmk hr.nin) hq hok2 f1) fun g' w' x q1 q2 q3=>calm hc g' w' x q1 q2 q3
   ·have hmk':makes (gAt gs j).op=false:=by simpa using hmk
    obtain ⟨f1,f2,f3⟩:=opg_stable hst hcl hmk' e1'
    have e2:opg cal (id + j) (gAt gs j) (keepOf (M j) (reads (gAt gs j))) (H e) (N e)=some (V j,H e,N e):=by
     by_cases hc0:cls cm (gAt gs j).op=0
     ·exact f3 (H e) (N e) (.inl hc0)
     ·have h2:=hje hc0
      have hlt:j < e:=by
       rcases Nat.lt_or_ge j e with h3 | h3
       ·exact h3
       ·have hjeq:j=e:=by omega
        have hlt:=hr.lt
        exact absurd (hjeq ▸ hI.fin.resolve_left (by omega)) hc
      rw [opg_congr (ev_keepOf _ _)]
      exact hI.pr j hlt (by omega) hmk' hr.nin s1
    have fe:=facts e hI.el
    exact opg_sound hcal hI.nx.inv hm (fe.1 j hr.lt (.inr ⟨hmk',hcl⟩)) fe.2.1 k4 e2 fun g' w' x q1 q2 q3=>calm hc g' w' x q1 q2 fun i hi=>q3 i fun ee=>by
     rcases ee with ee | ee
     ·exact hi ee
     ·omega
end
end Go.FI
namespace Go.FI
open Go.RowKit
variable [Sys]
section
variable {g g':Gh} {w w':World} {P:Program} {B:Nat} {w0:World} {h h':Heap} {a:Act} {m m':Tm} {v:FV} {ops:Array Oper} {nt:Nat} {cal:Call} {cm:Nat→Nat} {gs:List G} {ps:List Nat}
 {M:Nat→Tm} {H:Nat→Heap} {N:Nat→Nat} {V:Nat→FV} {id:Nat} {pm:List Nat}
def Has (l:Array Bool) (j:Nat):Prop:=l.getD j false=true
theorem not_has {l:Array Bool} {j:Nat} (h:l.getD j true=false):¬ Has l j∧j < l.size:=by
 unfold Has
 by_cases hj:j < l.size
 ·simp [hj] at h ⊢; exact h
 ·simp [Array.getElem?_eq_none (Nat.le_of_not_lt hj)] at h
theorem has_set {l:Array Bool} {j:Nat} (hj:j < l.size) (k:Nat):Has (l.setIfInBounds j true) k ↔ Has l k ∨ k=j:=by
 unfold Has
 by_cases e:j=k
 ·subst e;simp [hj]
 ·rw [getD_set_ne false e]
  constructor
  ·exact .inl
  ·intro h;exact h.resolve_right fun x=>e x.symm
def open_ (l:Array Bool):Nat:=(l.toList.filter fun b=>!b).length
theorem open_set_list:∀ (l:List Bool) (j:Nat),l[j]? = some false→((l.set j true).filter fun b=>!b).length + 1=(l.filter fun b=>!b).length:=by
 intro l
 induction l with
 |nil=>intro j h;simp at h
 |cons b l ih =>
  intro j h
  cases j with
  |zero=>simp at h;subst h;simp
  |succ j =>
   simp at h
   have:=ih j h
   cases b<;>simp<;>omega
theorem open_set {l:Array Bool} {j:Nat} (h:l.getD j true=false):open_ (l.setIfInBounds j true) + 1=open_ l:=by
 obtain ⟨h1,h2⟩:=not_has h
 unfold open_
 have:l.toList[j]? = some false:=by
  simp [Array.getD,h2] at h
  simp [h2,h]
 have:=open_set_list l.toList j this
 simpa using this
theorem open_zero {l:Array Bool} (h:open_ l=0) (j:Nat) (hj:j < l.size):Has l j:=by
 unfold open_ at h
 rw [List.length_eq_zero_iff,List.filter_eq_nil_iff] at h
 have:=h l[j] (by simp)
 unfold Has
 simpa [hj] using this
theorem ready_least (hD:Draw P nt cm ops gs pm ps) {l:Array Bool} (hs:l.size=gs.length) (hr:Region.ready .any ops l=[]):∀ j,j < gs.length→Has l j:=by
 intro j
 induction j using Nat.strongRecOn with
 |_ j ih =>
  intro hj
  by_cases hh:Has l j
  ·exact hh
  ·exfalso
   have hm:j ∈ Region.ready .any ops l:=by
    rw [mem_ready]
    obtain ⟨o,ho,_,he⟩:=hD.edge j hj
    refine ⟨?_,o,ho,fun e hm hb=>?_⟩
    ·unfold Has at hh
     have:j < l.size:=by omega
     simp [this] at hh ⊢; exact hh
    ·have:=he e hm hb
     exact ih e.on this (by omega)
   rw [hr] at hm
   simp at hm
def At (pm:List Nat) (n:Nat) (l:Array Bool) (p:Nat):Prop:=p < n∧Has l (mi pm p)
theorem any_sound (hcal:CalOk P cal) (hst:Stable cal cm) (hD:Draw P nt cm ops gs pm ps) (ht:Tr cal id gs M H N V) (hn:∀ j,j < gs.length→hget (H 0) (id + j)=none) (hle:id + gs.length ≤ N 0) (hf:Fresh (H 0) (N 0))
  {r:Option Nat} {n:Nat} {a0:Act} {g0:Gh} {wi:World} {NN:Nat→Prop} (hN1:∀ j,id ≤ j→j < id + gs.length→NN j) (hN2:∀ k < gs.length,∀ j,N k ≤ j→j < N (k + 1)→NN j) :
  ∀ (fuel:Nat) (l:Array Bool) (s e:Nat) (g:Gh) (a:Act) (w:World),open_ l=fuel→l.size=gs.length→(∀ k < gs.length,Has l k→∀ i,(psAt ps k).testBit i=true→Has l i) →
   DI B w0 nt a0 g0 wi NN id cm gs cal M N H V (M 0) (At pm gs.length l) s e g a w →
   wpAnyIn (fb r) n P .any ops (RegPost B w0 nt a0 g0 (H 0) wi NN (M gs.length) (H gs.length)) fuel l a w:=by
 have done:∀ (l:Array Bool) (s e:Nat) (g:Gh) (a:Act) (w:World),(∀ j,j < gs.length→Has l j)→DI B w0 nt a0 g0 wi NN id cm gs cal M N H V (M 0) (At pm gs.length l) s e g a w →
   RegPost B w0 nt a0 g0 (H 0) wi NN (M gs.length) (H gs.length) .normal a w:=by
  intro l s e g a w hall0 hI
  have hall:∀ j,j < gs.length→At pm gs.length l j:=fun j hj=>⟨hj,hall0 _ (by
   obtain ⟨o,ho,_⟩:=hD.op j hj
   have:=(Array.getElem?_eq_some_iff.1 ho).1
   rw [hD.len];exact this)⟩
  have he:e=gs.length:=by
   rcases hI.fin with h1 | h1
   ·exact h1
   ·rcases Nat.lt_or_ge e gs.length with h2 | h2
    ·have:=hI.pb e h2 h1 (hall e h2)
     have:=hI.se;omega
    ·have:=hI.el;omega
  subst he
  refine ⟨rfl,g,⟨fun t=>?_,hI.ts.gl⟩,hI.size,hI.defers,hI.nx,hI.kN⟩
  obtain ⟨v1,v2⟩:=tr_val hD ht t gs.length (Nat.le_refl _)
  by_cases hex:∃ k,k < gs.length∧(gAt gs k).dst=some t
  ·obtain ⟨k,hk,hd⟩:=hex
   rw [v1 k hk hd]
   exact hI.ts.tm1 k hk (hall k hk) t hd
  ·rw [v2 fun k hk hd=>hex ⟨k,hk,hd⟩]
   exact hI.ts.tm0 t fun k hk _ hd=>hex ⟨k,hk,hd⟩
 intro fuel
 induction fuel with
 |zero =>
  intro l s e g a w ho hs hdc hI
  have hall:∀ j,j < gs.length→Has l j:=fun j hj=>open_zero ho j (by omega)
  refine ⟨?_,done l s e g a w hall hI⟩
  rw [List.eq_nil_iff_forall_not_mem]
  intro j hj
  rw [mem_ready] at hj
  obtain ⟨h1,h2⟩:=not_has hj.1
  exact h1 (hall j (by omega))
 |succ fuel ih =>
  intro l s e g a w ho hs hdc hI
  refine ⟨fun hr=>done l s e g a w (ready_least hD hs hr) hI,fun j hj=>?_⟩
  rw [mem_ready] at hj
  obtain ⟨hu,o,hoj,hedge⟩:=hj
  obtain ⟨h1,h2⟩:=not_has hu
  have hjl:j < gs.length:=by omega
  have hset:=has_set h2
  have hpred:∀ i,(psAt ps j).testBit i=true→Has l i:=by
   intro i hi
   obtain ⟨o',ho',hm,hlt⟩:=hD.edge j hjl
   rw [hoj] at ho';cases ho'
   obtain ⟨ee,he1,he2,he3⟩:=hm i hi
   have hon:=hedge ee he1 he2
   rcases he3 with he3 | he3
   ·subst he3;exact hon
   ·exact hdc ee.on (by have:=hlt ee he1 he2;omega) hon i he3
  obtain ⟨p,hp,hpj⟩:=hD.sur j hjl
  have milt:∀ k < gs.length,mi pm k < gs.length:=fun k hk=>by
   obtain ⟨o,ho,_⟩:=hD.op k hk
   have:=(Array.getElem?_eq_some_iff.1 ho).1
   rw [hD.len];exact this
  have hready:Ready gs pm ps (At pm gs.length l) p:=⟨hp,fun h=>h1 (hpj ▸ h.2),fun i hi hb=>⟨hi,hpred _ (by rw [← hpj];exact hb)⟩,fun k hk hSk i hi hb=>⟨hi,hdc _ (milt k hk) hSk.2 _ hb⟩⟩
  have hS:∀ k,At pm gs.length (l.setIfInBounds j true) k ↔ At pm gs.length l k ∨ k=p:=by
   intro k
   constructor
   ·rintro ⟨hk,hh⟩
    rcases (hset _).1 hh with h3 | h3
    ·exact .inl ⟨hk,h3⟩
    ·exact .inr (hD.inj k hk p hp (h3.trans hpj.symm))
   ·rintro (⟨hk,hh⟩ | rfl)
    ·exact ⟨hk,(hset _).2 (.inl hh)⟩
    ·exact ⟨hp,(hset _).2 (.inr hpj)⟩
  have hstep:=draw_step (r:=r) (n:=n) (Q:=RegPost B w0 nt a0 g0 (H 0) wi NN (M gs.length) (H gs.length)) (K:=wpAnyIn (fb r) n P .any ops (RegPost B w0 nt a0 g0 (H 0) wi NN (M gs.length) (H gs.length)) fuel (l.setIfInBounds j true)) hcal hst hD ht hn hle hf hN1 hN2 hS hI hready ?_
  ·rw [hpj] at hstep;exact hstep
  intro s' e' g' a' w' hI'
  refine ih _ s' e' g' a' w' (by have:=open_set hu;omega) (by simpa using hs) ?_ hI'
  intro k hk hSk i hi
  rcases (hset k).1 hSk with h3 | h3
  ·exact (hset i).2 (.inl (hdc k hk h3 i hi))
  ·subst h3;exact (hset i).2 (.inl (hpred i hi))
theorem okGs_get:∀ (os:List Oper) (gs:List G),okGs P ops nt os gs=true→os.length=gs.length∧∀ j,j < gs.length→∃ o,os[j]? = some o∧okG P ops nt o (gAt gs j)=true:=by
 intro os
 induction os with
 |nil=>intro gs h;cases gs with
  |nil=>exact ⟨rfl,fun j hj=>by simp at hj⟩
  |cons=>simp [okGs] at h
 |cons o os ih =>
  intro gs h
  cases gs with
  |nil=>simp [okGs] at h
  |cons gg gs =>
   simp only [okGs,Bool.and_eq_true] at h
   obtain ⟨h1,h2⟩:=ih gs h.2
   refine ⟨by simp [h1],fun j hj=>?_⟩
   cases j with
   |zero=>exact ⟨o,rfl,h.1⟩
   |succ j =>
    obtain ⟨o',e1,e2⟩:=h2 j (by simpa using hj)
    exact ⟨o',by simpa using e1,by simpa [gAt] using e2⟩
theorem tr_mono (hcal:CalOk P cal) (hst:Stable cal cm) (ht:Tr cal id gs M H N V) (hn:∀ j,j < gs.length→hget (H 0) (id + j)=none) (hle:id + gs.length ≤ N 0) (hf:Fresh (H 0) (N 0)) :
  ∀ d k,k + d ≤ gs.length→N k ≤ N (k + d):=by
 intro d
 induction d with
 |zero=>intro k _;exact Nat.le_refl _
 |succ d ih =>
  intro k hk
  refine Nat.le_trans (ih k (by omega)) ?_
  obtain ⟨b,s1,s2,s3,s4⟩:=ht.step (k + d) (by omega)
  cases b with
  |false=>rw [show k + (d + 1)=k + d + 1 from rfl,(s3 rfl).2.2];exact Nat.le_refl _
  |true=>exact (opg_new hcal ((tr_facts hcal hst ht hn hle hf (k + d) (by omega)).1 (k + d) (by omega) (.inl (Nat.le_refl _))) (tr_facts hcal hst ht hn hle hf (k + d) (by omega)).2.1 (s2 rfl)).1
theorem draw_sound (hcal:CalOk P cal) (hst:Stable cal cm) (hd:okDraw P nt cm ops gs pm ps=true) {r:Option Nat} {n:Nat} {nx nx':Nat} (hrun:rops cal id gs m h nx=some (m',h',nx'))
  (hm:RT g w m a) (hs:a.tmps.size=nt) (hI:Inv B w0 g h w) (hn:∀ j,j < gs.length→hget h (id + j)=none) (hle:id + gs.length ≤ nx) (hf:Fresh h nx) {NN:Nat→Prop} (hN1:∀ j,id ≤ j→j < id + gs.length→NN j) (hN2:∀ j,nx ≤ j→j < nx'→NN j) :
  wpAnyIn (fb r) n P .any ops (RegPost B w0 nt a g h w NN m' h') ops.size (Array.replicate ops.size false) a w:=by
 obtain ⟨M,H,N,V,ht,rfl,rfl,rfl,rfl,rfl,rfl⟩:=rops_tr gs id m h nx m' h' nx' hrun
 have hD:=draw_of hd
 have hlen:ops.size=gs.length:=hD.len.symm
 obtain ⟨e,q1,q2,q3,q4⟩:=seg_end cm gs gs.length 0 (by omega)
 have hnk:=fun k (hk:k < gs.length)=>(tr_facts hcal hst ht hn hle hf k (by omega)).1 k hk (.inl (Nat.le_refl _))
 have low:∀ j,0 ≤ j→j < e→cls cm (gAt gs j).op ≤ 1:=fun k h1 h2=>by have:=hD.cl k (by omega);have:=q3 k h1 h2;omega
 have hsub:Sub (H 0) (H e):=tr_sub hst ht hnk q2 low e 0 (by omega) (Nat.le_refl _)
 have hno:∀ k,¬ Has (Array.replicate ops.size false) k:=by
  intro k hk
  unfold Has at hk
  by_cases hk':k < ops.size<;>simp [hk'] at hk
 have mono:=tr_mono hcal hst ht hn hle hf
 refine any_sound hcal hst hD ht hn hle hf hN1 (fun k hk j h1 h2=>hN2 j ?_ ?_) ops.size _ 0 e g a w ?_ (by simp [hlen]) (fun k _ hk=>absurd hk (hno k)) ?_
 ·have:=mono k 0 (by omega);rw [Nat.zero_add] at this;omega
 ·have:=mono (gs.length - (k + 1)) (k + 1) (by omega)
  rw [show k + 1 + (gs.length - (k + 1))=gs.length by omega] at this
  omega
 ·simp [open_]
 ·refine ⟨Nat.zero_le _,q2,q3,q4,fun j hj=>by omega,fun j _ _ hj=>absurd hj.2 (hno _),⟨fun j _ hj=>absurd hj.2 (hno _),fun t _=>hm t,hm.gl⟩,fun j hj _ _=>kNone hI (hn j hj),fun k hk _ _ ob hob=>(tr_sub hst ht hnk q2 low (e - (k + 1)) (k + 1) (by omega) (by omega)) _ _ hob,fun k hk hck hmk _ hwk=>?_,fun i hi hk=>⟨hk,?_⟩,⟨hI.sub hsub,GLe.refl _ _,fun _ h=>.inl h,Nat.le_refl _⟩,hs,rfl⟩
  ·obtain ⟨b,t1,t2,t3,t4⟩:=ht.step k (by omega)
   rw [hwk] at t1
   simp only [Option.some.injEq] at t1
   subst t1
   exact (opg_stable hst (by omega) hmk (t2 rfl)).2.2 _ _ (.inr (tr_sub hst ht hnk q2 low (e - k) k (by omega) (by omega)))
  exact tr_out hst ht hnk q2 low i (fun j h1 h2 ee=>hi (ee ▸ hN1 _ (by omega) (by omega))) e 0 (by omega) (Nat.le_refl _)
end
end Go.FI
namespace Go.FI
open Go.RowKit
variable [Sys]
section
variable {g g':Gh} {w w':World} {P:Program} {B:Nat} {w0:World} {h h':Heap} {a:Act} {m m':Tm} {v:FV} {ops:Array Oper} {nt:Nat} {cal:Call} {cm:Nat→Nat} {gs:List G} {ps:List Nat}
 {M:Nat→Tm} {H:Nat→Heap} {N:Nat→Nat} {V:Nat→FV} {id nx:Nat} {pm:List Nat} {c:Nat}
def isCl:O→Option (Nat × List X)
 |.cl f as=>some (f,as)
 |_=>none
def okPan (cm:Nat→Nat) (gs:List G) (pm ps:List Nat) (c:Nat) (kp:List Nat):Bool :=
 decide (c < gs.length) && (gAt gs c).guard.isNone && (isCl (gAt gs c).op).isSome &&
 (List.range gs.length).all fun i =>
  (decide (i ≤ c) || bef pm ps i c) &&
  (decide (c ≤ i) || (decide (cls cm (gAt gs i).op ≤ 1) && !makes (gAt gs i).op)) &&
  (decide (c < i) || (reads (gAt gs i)).all fun t=>((List.range gs.length).all fun j=>decide ((gAt gs j).dst ≠ some t)) || ((List.range i).any fun j=>decide ((gAt gs j).dst=some t) && bef pm ps i j)) &&
  (match (gAt gs i).dst with | some t=>!kp.contains t | none=>true)
structure Pan (cm:Nat→Nat) (gs:List G) (pm ps:List Nat) (c:Nat) (kp:List Nat):Prop where
 lt:c < gs.length
 gd:(gAt gs c).guard=none
 cl:∃ f as,(gAt gs c).op=.cl f as
 aft:∀ i < gs.length,c < i→bef pm ps i c=true
 pre:∀ i < c,cls cm (gAt gs i).op ≤ 1∧makes (gAt gs i).op=false
 rd:∀ i ≤ c,∀ t ∈ reads (gAt gs i),(∀ j < gs.length,(gAt gs j).dst ≠ some t) ∨ ∃ j < i,(gAt gs j).dst=some t∧bef pm ps i j=true
 kp:∀ i < gs.length,∀ t,(gAt gs i).dst=some t→t ∉ kp
theorem pan_of {kp:List Nat} (hp:okPan cm gs pm ps c kp=true):Pan cm gs pm ps c kp:=by
 unfold okPan at hp
 simp only [Bool.and_eq_true,decide_eq_true_eq,Option.isNone_iff_eq_none,List.all_eq_true,List.mem_range] at hp
 obtain ⟨⟨⟨h1,h2⟩,h3⟩,h4⟩:=hp
 refine ⟨h1,h2,?_,fun i hi hlt=>?_,fun i hi=>?_,fun i hi t ht=>?_,fun i hi t ht=>?_⟩
 ·unfold isCl at h3
  split at h3
  ·rename_i f as he;exact ⟨f,as,he⟩
  ·simp at h3
 ·have:=(h4 i hi).1.1.1
  simp only [Bool.or_eq_true,decide_eq_true_eq] at this
  exact this.resolve_left (by omega)
 ·have:=(h4 i (by omega)).1.1.2
  simp only [Bool.or_eq_true,decide_eq_true_eq,Bool.and_eq_true,Bool.not_eq_true'] at this
  exact this.resolve_left (by omega)
 ·have:=(h4 i (by omega)).1.2
  simp only [Bool.or_eq_true,decide_eq_true_eq,List.all_eq_true,List.any_eq_true,Bool.and_eq_true,List.mem_range] at this
  have:=this.resolve_left (by omega) t ht
  rcases this with h5 | ⟨j,h5,h6,h7⟩
  ·exact .inl fun j hj=>h5 j hj
  ·exact .inr ⟨j,h5,h6,h7⟩
 ·have:=(h4 i hi).2
  rw [ht] at this
  simpa using this
theorem pre_vals (hst:Stable cal cm) (hdst:∀ i < gs.length,∀ j < gs.length,i ≠ j→∀ t,(gAt gs j).dst=some t→(gAt gs i).dst ≠ some t) {kp:List Nat} (hP:Pan cm gs pm ps c kp) {nx:Nat} {x:Tm × Heap × Nat} (hr:rops cal id (gs.take c) m h nx=some x) :
  ∃ (M:Nat→Tm) (V:Nat→FV),M 0=m∧M c=x.1∧x.2.1=h∧x.2.2=nx∧∀ k < c,∃ b,wanted (M k) (gAt gs k).guard=some b∧(b=true→opg cal (id + k) (gAt gs k) (M k) h nx=some (V k,h,nx))∧(b=false→V k=.tup []) ∧
   (∀ t,(∀ j < gs.length,(gAt gs j).dst ≠ some t)→gt (M (k + 1)) t=gt m t)∧(∀ t,∀ j ≤ k,(gAt gs j).dst=some t→gt (M (k + 1)) t=V j):=by
 obtain ⟨m',h',nx'⟩:=x
 obtain ⟨M,H,N,V,ht,rfl,rfl,rfl,rfl,rfl,rfl⟩:=rops_tr (gs.take c) id m h nx m' h' nx' hr
 have hlen:(gs.take c).length=c:=by have:=hP.lt;simp;omega
 have hg:∀ k,k < c→gAt (gs.take c) k=gAt gs k:=fun k hk=>by simp [gAt,List.getElem?_take,hk]
 have same:∀ k,k ≤ c→H k=H 0∧N k=N 0:=by
  intro k
  induction k with
  |zero=>exact fun _=>⟨rfl,rfl⟩
  |succ k ih =>
   intro hk
   obtain ⟨i1,i2⟩:=ih (by omega)
   obtain ⟨b,s1,s2,s3,s4⟩:=ht.step k (by omega)
   rw [hg k (by omega)] at s2
   cases b with
   |false=>obtain ⟨_,e1,e2⟩:=s3 rfl;exact ⟨e1.trans i1,e2.trans i2⟩
   |true =>
    obtain ⟨e1,e2,_⟩:=opg_stable hst (hP.pre k (by omega)).1 (hP.pre k (by omega)).2 (s2 rfl)
    exact ⟨e1.trans i1,e2.trans i2⟩
 refine ⟨M,V,rfl,by rw [hlen],by rw [hlen];exact (same c (Nat.le_refl _)).1,by rw [hlen];exact (same c (Nat.le_refl _)).2,fun k hk=>?_⟩
 obtain ⟨b,s1,s2,s3,s4⟩:=ht.step k (by omega)
 rw [hg k hk] at s1 s2 s4
 refine ⟨b,s1,fun hb=>?_,fun hb=>(s3 hb).1,?_,?_⟩
 ·have:=s2 hb
  rw [(same k (by omega)).1,(same k (by omega)).2,(same (k + 1) (by omega)).1,(same (k + 1) (by omega)).2] at this
  exact this
 ·have:∀ k,k ≤ c→∀ t,(∀ j < gs.length,(gAt gs j).dst ≠ some t)→gt (M k) t=gt (M 0) t:=by
   intro k
   induction k with
   |zero=>exact fun _ _ _=>rfl
   |succ k ih =>
    intro hk t hno
    obtain ⟨b,s1,s2,s3,s4⟩:=ht.step k (by omega)
    rw [s4,hg k (by omega),← ih (by omega) t hno]
    have hne:=hno k (by have:=hP.lt;omega)
    cases hd:(gAt gs k).dst with
    |none=>rfl
    |some d=>simp only [put,gt];rw [if_neg (fun e=>hne (by rw [hd,e]))]
  exact fun t hno=>this (k + 1) (by omega) t hno
 ·have:∀ k,k ≤ c→∀ t,∀ j < k,(gAt gs j).dst=some t→gt (M k) t=V j:=by
   intro k
   induction k with
   |zero=>intro _ t j hj;omega
   |succ k ih =>
    intro hk t j hj hd
    obtain ⟨b,s1,s2,s3,s4⟩:=ht.step k (by omega)
    rw [s4,hg k (by omega)]
    by_cases hjk:j=k
    ·subst hjk;rw [hd];simp [put,gt]
    ·rw [← ih (by omega) t j (by omega) hd]
     have hne:=hdst k (by have:=hP.lt;omega) j (by have:=hP.lt;omega) (fun e=>hjk e.symm) t hd
     cases hdk:(gAt gs k).dst with
     |none=>rfl
     |some d=>simp only [put,gt];rw [if_neg (fun e=>hne (by rw [hdk,e]))]
  exact fun t j hj hd=>this (k + 1) (by omega) t j (by omega) hd
structure PI (B:Nat) (w0:World) (nt:Nat) (gs:List G) (V:Nat→FV) (m:Tm) (c:Nat) (a0:Act) (g0:Gh) (h:Heap) (wi:World) (NN:Nat→Prop) (S:Nat→Prop) (g:Gh) (a:Act) (w:World):Prop where
 sub:∀ j,S j→j < c
 tm1:∀ j,S j→∀ d,(gAt gs j).dst=some d→R g w (V j) (a.tmps.getD d undef)
 tm0:∀ t,(∀ j < gs.length,(gAt gs j).dst ≠ some t)→R g w (gt m t) (a.tmps.getD t undef)
 gl:GlOk g w
 nx:Nx B w0 g0 g h wi w
 kN:KNew g0 g h h NN
 size:a.tmps.size=nt
 defers:a.defers=a0.defers
theorem pan_sound (hcal:CalOkP P cal) (hst:Stable (np cal) cm) (hd:okDraw P nt cm ops gs pm ps=true) {kp:List Nat} (hp:okPan cm gs pm ps c kp=true) {r:Option Nat} {n:Nat} {nx:Nat} {x:Tm × Heap × Nat} (hrun:rops (np cal) id (gs.take c) m h nx=some x)
  {f:Nat} {as:List X} (hop:(gAt gs c).op=.cl f as) {u:FV} {h1:Heap} {nx1:Nat} (hc:cal f (evs x.1 as) x.2.1 x.2.2=some (.pan u,h1,nx1))
  (hm:RT g w m a) (hs:a.tmps.size=nt) (hI:Inv B w0 g h w) (hn:∀ j,j < gs.length→hget h (id + j)=none) (_hle:id + gs.length ≤ nx) (hf:Fresh h nx) {NN:Nat→Prop} (hN1:∀ j,id ≤ j→j < id + gs.length→NN j) (hN2:∀ j,nx ≤ j→j < nx1→NN j) :
  wpAnyIn (fb r) n P .any ops (RegPostP B w0 nt a g h w NN (some u) (keepOf m kp) h1) ops.size (Array.replicate ops.size false) a w:=by
 have hD:=draw_of hd
 have hP:=pan_of hp
 obtain ⟨M,V,e1,e2,e3,e4,hstep⟩:=pre_vals hst hD.dst hP hrun
 rw [e3,e4,← e2] at hc
 have hlen:ops.size=gs.length:=hD.len.symm
 have milt:∀ k < gs.length,mi pm k < gs.length:=fun k hk=>by
  obtain ⟨o,ho,_⟩:=hD.op k hk
  have:=(Array.getElem?_eq_some_iff.1 ho).1
  rw [hD.len];exact this
 have reads_ok:∀ {S:Nat→Prop} {g':Gh} {a':Act} {w':World} {j:Nat},PI B w0 nt gs V m c a g h w NN S g' a' w'→j ≤ c→(∀ i < gs.length,bef pm ps j i=true→S i)→RT g' w' (keepOf (M j) (reads (gAt gs j))) a':=by
  intro S g' a' w' j hI' hj hpred
  refine ⟨fun t=>?_,hI'.gl⟩
  by_cases hmem:t ∈ reads (gAt gs j)
  ·rw [gt_keepOf _ _ _ hmem]
   rcases hP.rd j hj t hmem with h5 | ⟨i,h5,h6,h7⟩
   ·have:gt (M j) t=gt m t:=by
     cases j with
     |zero=>rw [e1]
     |succ k=>obtain ⟨_,_,_,_,q,_⟩:=hstep k (by omega);exact q t h5
    rw [this]
    exact hI'.tm0 t h5
   ·have:gt (M j) t=V i:=by
     cases j with
     |zero=>omega
     |succ k=>obtain ⟨_,_,_,_,_,q⟩:=hstep k (by omega);exact q t i (by omega) h6
    rw [this]
    exact hI'.tm1 i (hpred i (by have:=hP.lt;omega) h7) t h6
  ·rw [gt_keepOf_not _ _ _ hmem];exact .undef _
 have key:∀ (fuel:Nat) (l:Array Bool) (g':Gh) (a':Act) (w':World),open_ l=fuel→l.size=gs.length→(∀ k < gs.length,Has l k→∀ i,(psAt ps k).testBit i=true→Has l i) →
   PI B w0 nt gs V m c a g h w NN (At pm gs.length l) g' a' w' →
   wpAnyIn (fb r) n P .any ops (RegPostP B w0 nt a g h w NN (some u) (keepOf m kp) h1) fuel l a' w':=by
  intro fuel
  have never:∀ (l:Array Bool) (g':Gh) (a':Act) (w':World),(∀ j,j < gs.length→Has l j)→PI B w0 nt gs V m c a g h w NN (At pm gs.length l) g' a' w'→False:=by
   intro l g' a' w' hall hI'
   have:=hI'.sub c ⟨hP.lt,hall _ (milt c hP.lt)⟩
   omega
  induction fuel with
  |zero =>
   intro l g' a' w' ho hsz hdc hI'
   exact (never l g' a' w' (fun j hj=>open_zero ho j (by omega)) hI').elim
  |succ fuel ih =>
   intro l g' a' w' ho hsz hdc hI'
   refine ⟨fun hr=>(never l g' a' w' (ready_least hD hsz hr) hI').elim,fun j hj=>?_⟩
   rw [mem_ready] at hj
   obtain ⟨hu,o,hoj,hedge⟩:=hj
   obtain ⟨q1,q2⟩:=not_has hu
   have hjl:j < gs.length:=by omega
   have hset:=has_set q2
   have hpred:∀ i,(psAt ps j).testBit i=true→Has l i:=by
    intro i hi
    obtain ⟨o',ho',hm',hlt⟩:=hD.edge j hjl
    rw [hoj] at ho';cases ho'
    obtain ⟨ee,he1,he2,he3⟩:=hm' i hi
    have hon:=hedge ee he1 he2
    rcases he3 with he3 | he3
    ·subst he3;exact hon
    ·exact hdc ee.on (by have:=hlt ee he1 he2;omega) hon i he3
   obtain ⟨p,hpl,hpj⟩:=hD.sur j hjl
   have hpS:∀ i < gs.length,bef pm ps p i=true→At pm gs.length l i:=fun i hi hb=>⟨hi,hpred _ (by rw [← hpj];exact hb)⟩
   have hpc:p ≤ c:=by
    rcases Nat.lt_or_ge c p with h5 | h5
    ·have:=hI'.sub c (hpS c hP.lt (hP.aft p hpl h5))
     omega
    ·exact h5
   have hRT:=reads_ok hI' hpc hpS
   obtain ⟨o',ho',hokp⟩:=hD.op p hpl
   rw [hpj,hoj] at ho'
   cases ho'
   obtain ⟨k1,k2,k3,k4⟩:=okG_dst hokp
   unfold wpOpIn
   rw [hoj]
   rcases Nat.lt_or_ge p c with hlt | hge
   ·-- one that only reads
    obtain ⟨b,t1,t2,t3,t4,t5⟩:=hstep p hlt
    have hw:=wanted_sound (ops:=ops) hRT hI'.size k3 (by rw [wanted_keepOf];exact t1)
    simp only [hw]
    have next:∀ g2 w2 x2,R g2 w2 (V p) x2→Nx B w0 g' g2 h w' w2→KNew g' g2 h h (fun i=>i=id + p ∨ nx ≤ i∧i < nx)→wpAnyIn (fb r) n P .any ops (RegPostP B w0 nt a g h w NN (some u) (keepOf m kp) h1) fuel (l.setIfInBounds j true) (a'.put o.dst x2) w2:=by
     intro g2 w2 x2 hx2 hn2 hk2
     have hS:∀ k,At pm gs.length (l.setIfInBounds j true) k ↔ At pm gs.length l k ∨ k=p:=by
      intro k
      constructor
      ·rintro ⟨hk,hh⟩
       rcases (hset _).1 hh with h3 | h3
       ·exact .inl ⟨hk,h3⟩
       ·exact .inr (hD.inj k hk p hpl (h3.trans hpj.symm))
      ·rintro (⟨hk,hh⟩ | rfl)
       ·exact ⟨hk,(hset _).2 (.inl hh)⟩
       ·exact ⟨hpl,(hset _).2 (.inr hpj)⟩
     have same:∀ t,(gAt gs p).dst ≠ some t→(a'.put o.dst x2).tmps.getD t undef=a'.tmps.getD t undef:=by
      intro t ht
      rw [k1]
      cases hdj:(gAt gs p).dst with
      |none=>rfl
      |some d =>
       have:d ≠ t:=fun e=>ht (by rw [hdj,e])
       simp [Act.put,Array.getElem?_setIfInBounds_ne this]
     refine ih _ g2 _ w2 (by have:=open_set hu;omega) (by simpa using hsz) ?_ ⟨fun k hk=>?_,fun k hk d hdk=>?_,fun t hno=>?_,fun k cs hk=>(hI'.gl k cs hk).mono hn2.le,hI'.nx.trans hn2,fun i hi hki=>?_,by rw [put_size];exact hI'.size,by rw [put_defers];exact hI'.defers⟩
     ·intro k hk hSk i hi
      rcases (hset k).1 hSk with h3 | h3
      ·exact (hset i).2 (.inl (hdc k hk h3 i hi))
      ·subst h3;exact (hset i).2 (.inl (hpred i hi))
     ·rcases (hS k).1 hk with h3 | h3
      ·exact hI'.sub k h3
      ·omega
     ·rcases (hS k).1 hk with h3 | h3
      ·have hkp:k ≠ p:=fun e=>q1 (by rw [← hpj,← e];exact h3.2)
       rw [same d (hD.dst p hpl k h3.1 (fun e=>hkp e.symm) d hdk)]
       exact (hI'.tm1 k h3 d hdk).mono hn2.le
      ·subst h3
       have hlt2:d < a'.tmps.size:=by rw [hdk] at k2;simp [okDst] at k2;rw [hI'.size];exact k2
       rw [k1,hdk]
       simpa [Act.put,Array.getD,hlt2] using hx2
     ·rw [same t (hno p hpl)]
      exact (hI'.tm0 t hno).mono hn2.le
     ·have r1:=hI'.kN i hi hki
      exact ⟨(hk2 i (fun e=>hi (by rcases e with e | e;exact e ▸ hN1 _ (by omega) (by omega);omega)) r1.1).1,rfl⟩
    cases b with
    |false =>
     simp only [Bool.false_eq_true,if_false]
     refine ⟨fun _ _=>trivial,?_⟩
     exact next g' w' undef (by rw [t3 rfl];exact .tup [] [] .nil) (.refl hI'.nx.inv) (fun _ _ h=>⟨h,rfl⟩)
    |true =>
     simp only [if_true]
     have e1':opg (np cal) (id + p) (gAt gs p) (keepOf (M p) (reads (gAt gs p))) h nx=some (V p,h,nx):=by
      rw [opg_congr (ev_keepOf _ _)];exact t2 rfl
     obtain ⟨od,oop,oty,opos,oaft,ogd⟩:=o
     exact opg_sound hcal.np hI'.nx.inv hRT (hn p hpl) hf k4 e1' fun g2 w2 x2 f1 f2 f3=>next g2 w2 x2 f1 f2 f3
   ·-- the call
    have hpc2:p=c:=by omega
    subst hpc2
    have hw:=wanted_sound (ops:=ops) hRT hI'.size k3 (b:=true) (by rw [hP.gd];rfl)
    simp only [hw,if_true]
    rw [hop] at k4
    obtain ⟨od,oop,oty,opos,oaft,ogd⟩:=o
    simp only [okO] at k4
    split at k4
    ·rename_i f2 args2 ts2
     simp only [Bool.and_eq_true,beq_iff_eq,decide_eq_true_eq] at k4
     obtain ⟨⟨rfl,hlt⟩,h2⟩:=k4
     obtain ⟨he,h3⟩:=hcal.fn _ _ _ _ _ _ _ hc hlt
     obtain ⟨xs,z1,z2⟩:=exec_cl (ts:=ts2) (dst:=od) (ty:=oty) (pos:=opos) (aft:=oaft) (gd:=ogd) (caps:=[]) (cs:=[]) hRT he (fo:=.func _) rfl .nil h2
     have hev:evs (keepOf (M p) (reads (gAt gs p))) as=evs (M p) as:=evs_congr fun y hy=>ev_keepOf _ _ y (by rw [hop];exact hy)
     rw [hev] at z2
     refine ⟨fun _ _=>trivial,?_⟩
     rw [Oper.semAt_eq _ _ _ (by intro c;simp),z1,Oper.uponIn_enter]
     refine ⟨fun hh=>by simp [fb,Fence.wide] at hh,callsIn_fb ((h3 B w0 g' w' xs hI'.nx.inv hI'.gl (by simpa using z2) hf).mono ?_)⟩
     rintro e w2 ⟨g2,hr2,hn2,hk2⟩
     rcases hr2 with ⟨y,rfl,hr2⟩ | ⟨u',y,hu2,rfl,hr2⟩
     ·cases hr2
     ·cases hu2
      refine ⟨g2,⟨fun t=>?_,fun k cs hk=>(hI'.gl k cs hk).mono hn2.le⟩,hI'.size,hI'.defers,hI'.nx.trans hn2,fun i hi hki=>?_,y,rfl,hr2⟩
      ·by_cases hmem:t ∈ kp
       ·rw [gt_keepOf _ _ _ hmem]
        exact (hI'.tm0 t fun j hj hdj=>hP.kp j hj t hdj hmem).mono hn2.le
       ·rw [gt_keepOf_not _ _ _ hmem];exact .undef _
      ·have r1:=hI'.kN i hi hki
       exact hk2 i (fun e=>hi (hN2 i e.1 e.2)) r1.1
    ·simp at k4
 have hno:∀ k,¬ Has (Array.replicate ops.size false) k:=by
  intro k hk
  unfold Has at hk
  by_cases hk':k < ops.size<;>simp [hk'] at hk
 refine key ops.size _ g a w (by simp [open_]) (by simp [hlen]) (fun k _ hk=>absurd hk (hno k)) ⟨fun j hj=>absurd hj.2 (hno _),fun j hj=>absurd hj.2 (hno _),fun t _=>hm t,hm.gl,.refl hI,fun _ _ h=>⟨h,rfl⟩,hs,rfl⟩
theorem rechk_bnd {α β:Type} {h:Heap} {m:Tm} {x:Option α} {f:α→Option β}:∀ l:List (Option (Nat × Bool) × Option Nat × Nat × Nat),rechk h m (bnd x f) l=bnd (rechk h m x l) f:=by
 intro l
 induction l with
 |nil=>rfl
 |cons p l ih =>
  obtain ⟨gd,ag,n,d⟩:=p
  simp only [rechk]
  cases wanted m gd with
  |none=>rfl
  |some b =>
   simp only [bnd]
   split
   ·unfold chk
    split
    ·exact ih
    ·rfl
   ·exact ih
theorem rops_append:∀ (l1 l2:List G) (id:Nat) (m:Tm) (h:Heap) (nx:Nat),rops cal id (l1 ++ l2) m h nx=bnd (rops cal id l1 m h nx) fun x=>rops cal (id + l1.length) l2 x.1 x.2.1 x.2.2:=by
 intro l1
 induction l1 with
 |nil=>intro l2 id m h nx;rfl
 |cons gg l1 ih =>
  intro l2 id m h nx
  have e:id + (gg::l1).length=id + 1 + l1.length:=by simp;omega
  simp only [List.cons_append,rops,e]
  cases wanted m gg.guard with
  |none=>rfl
  |some b =>
   simp only [bnd]
   split
   ·cases opg cal id gg m h nx with
    |none=>rfl
    |some x =>
     simp only
     rw [ih,rechk_bnd]
     rfl
   ·rw [ih];rfl
theorem ropsD_some {cal:Call} {r:Option FV × Tm × Heap × Nat} (hr:ropsD cal id c gs m h nx=some r) (hc:c < gs.length) (hg:(gAt gs c).guard=none) :
  (∃ z,r=(none,z)∧rops (np cal) id gs m h nx=some z) ∨ ∃ x f as u h1 nx1,rops (np cal) id (gs.take c) m h nx=some x∧(gAt gs c).op=.cl f as∧cal f (evs x.1 as) x.2.1 x.2.2=some (.pan u,h1,nx1)∧r=(some u,m,h1,nx1):=by
 unfold ropsD at hr
 obtain ⟨x,k1,hr⟩:=bnd_some hr
 change (match (gAt gs c).op with
  |.cl f as=>bnd (cal f (evs x.1 as) x.2.1 x.2.2) fun y=>match y.1 with
   |.pan u=>some (some u,m,y.2.1,y.2.2)
   |v=>bnd (rechk y.2.1 (put x.1 (gAt gs c).dst v) (rops (np cal) (id + c + 1) (gs.drop (c + 1)) (put x.1 (gAt gs c).dst v) y.2.1 y.2.2) (gAt gs c).re) fun z=>some (none,z)
  |_=>none)=some r at hr
 split at hr
 ·rename_i f as ho
  obtain ⟨⟨v,h1,nx1⟩,k2,hr⟩:=bnd_some hr
  simp only at hr
  split at hr
  ·rename_i u
   simp only [Option.some.injEq] at hr
   exact .inr ⟨x,f,as,u,h1,nx1,k1,ho,k2,hr.symm⟩
  ·rename_i hnp
   obtain ⟨z,k3,hr⟩:=bnd_some hr
   simp only [Option.some.injEq] at hr
   refine .inl ⟨z,hr.symm,?_⟩
   have hsplit:gs=gs.take c ++ (gAt gs c::gs.drop (c + 1)):=by
    have e:gAt gs c=gs[c]:=by simp [gAt,hc]
    rw [e,← List.drop_eq_getElem_cons hc,List.take_append_drop]
   have hl:(gs.take c).length=c:=by simp;omega
   rw [hsplit,rops_append,k1]
   simp only [bnd,hl]
   simp only [rops,hg,wanted,bnd,if_true]
   have hpn:isPan v=false:=by cases v<;>first | rfl | exact absurd rfl (hnp _)
   have hop:opg (np cal) (id + c) (gAt gs c) x.1 x.2.1 x.2.2=some (v,h1,nx1):=by
    unfold opg
    rw [ho]
    simp only [np,k2,bnd,chk,hpn,if_true]
   rw [hop]
   exact k3
 ·simp at hr
end
end Go.FI
namespace Go.FI
open Go.RowKit
variable [Sys]
def psOf (ops:Array Oper):List Nat:=ops.toList.foldl (fun acc o=>acc ++ [o.after.toList.foldl (edgeMask acc) 0]) []
def okPs (nt:Nat) (ps ct:List Nat):Bool:=(ps ++ ct).Nodup && (ps ++ ct).all (· < nt)
def okC (P:Program) (cm:Nat→Nat) (rdO:Nat→Option Rd) (nt:Nat):Code→C→Bool
 |.skip,.sk=>true
 |.refuse _,.bad=>true
 |.label l,.lb l'=>l == l'
 |.scope c,.sc d=>okC P cm rdO nt c d
 |.goto l,.go l'=>l == l'
 |.region _ ops draw,.rg d gs _=>match draw,d with
  |false,none=>okGs P ops nt ops.toList gs
  |true,some pm=>okDraw P nt cm ops gs pm (psOf ops)
  |_,_=>false
 |.region _ ops true,.rp pm c kp gs _=>okDraw P nt cm ops gs pm (psOf ops) && okPan cm gs pm (psOf ops) c kp
 |.region _ ops false,.rq gs _=>okGPs P ops nt ops.toList gs
 |.seq a b,.sq a' b'=>okC P cm rdO nt a a' && okC P cm rdO nt b b'
 |.cond c a b,.cd x a' b'=>okX c x && okC P cm rdO nt a a' && okC P cm rdO nt b b'
 |.block i c,.bl j d=>i == j && okC P cm rdO nt c d
 |.loop c,.lp _ d=>okC P cm rdO nt c d
 |.exit i,.xt j=>i == j
 |.ret,.rt=>true
 |.rangeFunc g ps asg body,.rf f x ct=>okX g x && decide (RB ≤ f) && (match rdO f with
  |some d=>ps.toList == d.ps && ct == d.ct && okPs nt d.ps d.ct && okC P cm rdO nt asg d.asg && okC P cm rdO nt body d.body
  |none=>false)
 |_,_=>false
def RkOf (P:Program) (cm:Nat→Nat) (rdO:Nat→Option Rd) (f:Nat) (r:Loop) (ct:List Nat):Prop :=
 ∃ d,rdO f=some d∧d.ct=ct∧r.params.toList=d.ps∧okPs r.tmps.size d.ps d.ct=true∧okC P cm rdO r.tmps.size r.assign d.asg=true∧okC P cm rdO r.tmps.size r.body d.body=true
inductive Todo (P:Program) (cm:Nat→Nat) (rdO:Nat→Option Rd) (nt:Nat) (K0:List Item):List Item→List I→Prop
 |nil:Todo P cm rdO nt K0 K0 []
 |code (c:Code) (d:C) (k:List Item) (l:List I) (h:okC P cm rdO nt c d=true) (hs:Todo P cm rdO nt K0 k l):Todo P cm rdO nt K0 (.code c::k) (.code d::l)
 |inB (id:Nat) (k:List Item) (l:List I) (hs:Todo P cm rdO nt K0 k l):Todo P cm rdO nt K0 (.inBlock id::k) (.inB id::l)
 |inL (c:Code) (d:C) (t:Option Nat) (k:List Item) (l:List I) (h:okC P cm rdO nt c d=true) (hs:Todo P cm rdO nt K0 k l):Todo P cm rdO nt K0 (.inLoop c::k) (.inL t d::l)
 |inS (c:Code) (d:C) (k:List Item) (l:List I) (h:okC P cm rdO nt c d=true) (hs:Todo P cm rdO nt K0 k l):Todo P cm rdO nt K0 (.inScope c::k) (.inS d::l)
 |beg (id:Nat) (k:List Item) (l:List I) (hs:Todo P cm rdO nt K0 k l):Todo P cm rdO nt K0 (.beginRound::k) (.beg id::l)
theorem exit_todo {P:Program} {cm:Nat→Nat} {rdO:Nat→Option Rd} {nt:Nat} {K0:List Item} (id:Nat) {k:List Item} {l:List I} (h:Todo P cm rdO nt K0 k l) :
  (∀ l',FI.exitTo id l=some l'→∃ k',Go.exitTo id k=some k'∧Todo P cm rdO nt K0 k' l')∧(FI.exitTo id l=none→Go.exitTo id k=Go.exitTo id K0):=by
 induction h with
 |nil=>exact ⟨fun l' h=>by simp [FI.exitTo] at h,fun _=>rfl⟩
 |code c d k l h hs ih=>exact ih
 |inL c d t k l h hs ih=>exact ih
 |beg id k l hs ih=>exact ih
 |inS c d k l h hs ih=>exact ih
 |inB j k l hs ih =>
  simp only [FI.exitTo,Go.exitTo]
  by_cases e:j=id
  ·subst e
   simp only [if_true,beq_self_eq_true]
   exact ⟨fun l' h=>by cases h;exact ⟨k,rfl,hs⟩,fun h=>by cases h⟩
  ·have:(j == id)=false:=by simpa using e
   rw [if_neg e,this]
   exact ih
theorem exit_mem (id:Nat):∀ (l l':List I),FI.exitTo id l=some l'→∀ x ∈ l',x ∈ l:=by
 intro l
 induction l with
 |nil=>intro l' h;simp [FI.exitTo] at h
 |cons y l ih =>
  intro l' h x hx
  cases y with
  |inB j =>
   simp only [FI.exitTo] at h
   split at h
   ·cases h;exact List.mem_cons_of_mem _ hx
   ·exact List.mem_cons_of_mem _ (ih _ h x hx)
  |code c=>exact List.mem_cons_of_mem _ (ih _ h x hx)
  |inL t c=>exact List.mem_cons_of_mem _ (ih _ h x hx)
  |beg i=>exact List.mem_cons_of_mem _ (ih _ h x hx)
  |inS c=>exact List.mem_cons_of_mem _ (ih _ h x hx)
theorem findLb_ok {P:Program} {cm:Nat→Nat} {rdO:Nat→Option Rd} {nt:Nat} (t:Nat):∀ (c:Code) (d:C),okC P cm rdO nt c d=true →
  (∀ e,findLb d t=some e→∃ q,findLabel c t=some q∧okC P cm rdO nt q e=true)∧(findLb d t=none→findLabel c t=none):=by
 intro c
 induction c with
 |seq a b iha ihb =>
  intro d hok
  cases d<;>simp only [okC,Bool.false_eq_true,Bool.and_eq_true] at hok
  rename_i a' b'
  obtain ⟨a1,a2⟩:=iha _ hok.1
  obtain ⟨b1,b2⟩:=ihb _ hok.2
  simp only [findLb,findLabel]
  cases hx:findLb a' t with
  |some e =>
   obtain ⟨q,h1,h2⟩:=a1 e hx
   simp only [h1]
   exact ⟨fun e' he=>by cases he;exact ⟨_,rfl,by simp [okC,h2,hok.2]⟩,fun h=>by cases h⟩
  |none =>
   simp only [a2 hx]
   exact ⟨b1,b2⟩
 |label l =>
  intro d hok
  cases d<;>simp only [okC,Bool.false_eq_true,beq_iff_eq] at hok
  subst hok
  simp only [findLb,findLabel]
  by_cases e:l=t
  ·subst e
   simp [okC]
  ·have:(l == t)=false:=by simpa using e
   rw [if_neg e,this]
   exact ⟨fun e he=>(by cases he),fun _=>(by simp)⟩
 |_ =>
  intro d hok
  cases d<;>(try simp only [okC,Bool.false_eq_true] at hok)<;>exact ⟨fun e he=>by simp [findLb] at he,fun _=>rfl⟩
theorem goto_todo {P:Program} {cm:Nat→Nat} {rdO:Nat→Option Rd} {nt:Nat} {K0:List Item} (t:Nat) {k:List Item} {l:List I} (h:Todo P cm rdO nt K0 k l) :
  (∀ l',FI.goIn t l=some l'→∃ k',Go.gotoIn t k=some k'∧Todo P cm rdO nt K0 k' l')∧(FI.goIn t l=none→Go.gotoIn t k=Go.gotoIn t K0):=by
 induction h with
 |nil=>exact ⟨fun l' h=>by simp [FI.goIn] at h,fun _=>rfl⟩
 |code c d k l h hs ih=>exact ih
 |inL c d t k l h hs ih=>exact ih
 |beg id k l hs ih=>exact ih
 |inB j k l hs ih=>exact ih
 |inS c d k l h hs ih =>
  obtain ⟨h1,h2⟩:=findLb_ok t c d h
  simp only [FI.goIn,Go.gotoIn]
  cases hx:findLb d t with
  |some e =>
   obtain ⟨q,h3,h4⟩:=h1 e hx
   simp only [h3]
   exact ⟨fun l' he=>by cases he;exact ⟨_,rfl,.code _ _ _ _ h4 (.inS _ _ _ _ h hs)⟩,fun h=>by cases h⟩
  |none =>
   simp only [h2 hx]
   exact ih
theorem go_mem (t:Nat):∀ (l l':List I),FI.goIn t l=some l'→∀ x ∈ l',(∃ c,x=.code c) ∨ x ∈ l:=by
 intro l
 induction l with
 |nil=>intro l' h;simp [FI.goIn] at h
 |cons y l ih =>
  intro l' h x hx
  cases y with
  |inS c =>
   simp only [FI.goIn] at h
   split at h
   ·cases h
    rcases List.mem_cons.1 hx with hx | hx
    ·exact .inl ⟨_,hx⟩
    ·exact .inr hx
   ·rcases ih _ h x hx with q | q
    ·exact .inl q
    ·exact .inr (List.mem_cons_of_mem _ q)
  |code c=>rcases ih _ h x hx with q | q;exact .inl q;exact .inr (List.mem_cons_of_mem _ q)
  |inL t c=>rcases ih _ h x hx with q | q;exact .inl q;exact .inr (List.mem_cons_of_mem _ q)
  |beg i=>rcases ih _ h x hx with q | q;exact .inl q;exact .inr (List.mem_cons_of_mem _ q)
  |inB i=>rcases ih _ h x hx with q | q;exact .inl q;exact .inr (List.mem_cons_of_mem _ q)
def Base (β:Nat) (l:List I):Prop:=∀ b c,I.inL (some b) c ∈ l→β ≤ b
def gcut (g:Gh) (b:Nat):Gh:=⟨fun i=>if i < b then g.κ i else none,g.Z⟩
def Begs (β:Nat) (g:Gh) (b:Frame) (l:List I):Prop:=∀ id,I.beg id ∈ l→id < β∧∃ q loc,b.roundOf=some q∧g.κ id=some loc∧loc.blk=some q∧loc.mp=true
theorem Begs.sub {β:Nat} {g:Gh} {b:Frame} {l l':List I} (h:Begs β g b l) (hs:∀ id,I.beg id ∈ l'→I.beg id ∈ l):Begs β g b l':=fun id hi=>h id (hs id hi)
theorem Begs.le {β:Nat} {g g1:Gh} {w w1:World} {b:Frame} {l:List I} (h:Begs β g b l) (hg:GLe g g1 w w1):Begs β g1 b l:=fun id hi=>by
 obtain ⟨h1,q,loc,h2,h3,h4,h5⟩:=h id hi
 obtain ⟨loc',k1,_,_,k2⟩:=hg.k id loc h3
 have:=k2 (.inr h5)
 subst this
 exact ⟨h1,q,loc',h2,k1,h4,h5⟩
theorem Begs.cut {β bb:Nat} {g:Gh} {b:Frame} {l:List I} (h:Begs β g b l) (hb:β ≤ bb):Begs β (gcut g bb) b l:=fun id hi=>by
 obtain ⟨h1,q,loc,h2,h3,h4,h5⟩:=h id hi
 exact ⟨h1,q,loc,h2,by simp [gcut,h3];omega,h4,h5⟩
theorem Rnd.cut {β bb:Nat} {g:Gh} {b:Frame} (h:Rnd β g b) (hb:β ≤ bb):Rnd β (gcut g bb) b:=fun q hq=>by
 obtain ⟨id,loc,r,h1,h2,h3,h4,h5⟩:=h q hq
 exact ⟨id,loc,r,h1,by simp [gcut,h2];omega,h3,h4,h5⟩
theorem stepR_scope {P:Program} {b:Frame} {a:Act} {k:List Item} {cs:List Frame} {w:World} {c:Code}:step P (lone (b.atR a (.code (.scope c)::k)) cs w)=.next (lone (b.atR a (.code c::.inScope c::k)) cs w) :=
 step_lone_go (by simp [stepG,stepG.exec,Frame.atR])
theorem stepR_inScope {P:Program} {b:Frame} {a:Act} {k:List Item} {cs:List Frame} {w:World} {c:Code}:step P (lone (b.atR a (.inScope c::k)) cs w)=.next (lone (b.atR a k) cs w) :=
 step_lone_go (by simp [stepG,stepG.exec,Frame.atR])
def EndF (K0:List Item) (b:Frame) (a':Act) (K':List Item) (fr:Frame) (g':Gh) (w':World):Ex→Prop
 |.fin=>K'=K0∧fr=b.atR a' K'
 |.ret=>(∃ r,K'=.code .ret::r)∧fr=b.atR a' K'
 |.xt id=>(∃ r,K'=.code (.exit id)::r∧Go.exitTo id r=Go.exitTo id K0)∧fr=b.atR a' K'
 |.pan u=>∃ x,R g' w' u x∧fr={ b.atR a' K' with mode:=.panicking [{ v:=x,recovered:=false }] }
section
variable {P:Program} {cm:Nat→Nat} {nt:Nat} {cal:Call} {B:Nat} {w0:World} {r:Option Nat} {K0:List Item}
theorem room_fb (r:Option Nat) (n:Nat):(fb r).room n:=fun _ h=>by simp [fb,Fence.wide] at h
theorem RT.keep {g:Gh} {w:World} {m:Tm} {a:Act} (hm:RT g w m a) (ts:List Nat):RT g w (keepOf m ts) a:=by
 refine ⟨?_,hm.gl⟩
 intro t
 by_cases h:t ∈ ts
 ·rw [gt_keepOf _ _ _ h];exact hm t
 ·rw [gt_keepOf_not _ _ _ h];exact .undef _
theorem hget_cutH (b:Nat):∀ (h:Heap) (i:Nat),hget (cutH b h) i=if i < b then hget h i else none:=by
 intro h
 induction h with
 |nil=>intro i;simp [cutH,hget]
 |cons p r ih =>
  obtain ⟨j,o⟩:=p
  intro i
  simp only [cutH]
  split
  ·rename_i hj
   simp only [hget]
   by_cases e:j=i
   ·subst e;simp [hj]
   ·rw [if_neg e,if_neg e];exact ih i
  ·rename_i hj
   rw [ih]
   by_cases hi:i < b
   ·have e:j ≠ i:=fun e=>hj (by omega)
    simp [hi,hget,e]
   ·simp [hi]
theorem lows_iff {b:Nat} {vs:List FV}:lows b vs=true ↔ ∀ v ∈ vs,low b v=true:=by
 induction vs with
 |nil=>simp [lows]
 |cons v vs ih=>simp [lows,ih]
theorem low_cells {b:Nat} {v:FV} (h:low b v=true):lows b v.cells=true:=by
 cases v<;>simp_all [FV.cells,lows,low]
theorem lows_flat {b:Nat} {vs:List FV} (h:lows b vs=true):lows b (vs.flatMap FV.cells)=true:=by
 rw [lows_iff] at h ⊢
 intro c hc
 obtain ⟨v,hv,hcv⟩:=List.mem_flatMap.1 hc
 exact lows_iff.1 (low_cells (h v hv)) c hcv
mutual
theorem low_of_pure {b:Nat}:∀ v:FV,pure_ v=true→low b v=true
 |.undef,_ | .bool _,_ | .int _ _,_ | .str _,_ | .nilp,_ | .nilm,_ | .nilf,_ | .nili,_=>rfl
 |.pan _,h=>by simp [pure_] at h
 |.agg cs,h | .tup cs,h | .lst _ cs,h | .eptr cs _,h | .fn _ cs,h=>by simp only [pure_] at h;simp only [low];exact lows_of_pures cs h
 |.ifc _ v,h=>by simp only [pure_] at h;simp only [low];exact low_of_pure v h
 |.ptr ..,h | .sref ..,h | .map _,h | .yl ..,h=>by simp [pure_] at h
theorem lows_of_pures {b:Nat}:∀ vs:List FV,pures vs=true→lows b vs=true
 |[],_=>rfl
 |v::r,h=>by simp only [pures,Bool.and_eq_true] at h;simp only [lows,Bool.and_eq_true];exact ⟨low_of_pure v h.1,lows_of_pures r h.2⟩
end
mutual
theorem R.cut {g:Gh} {w:World} {b:Nat}:∀ {v:FV} {x:Value},R g w v x→low b v=true→R (gcut g b) w v x
 |_,_,.undef v,_=>.undef v
 |_,_,.bool b,_=>.bool b
 |_,_,.int k n,_=>.int k n
 |_,_,.str s,_=>.str s
 |_,_,.agg cs vs hr,h=>.agg cs vs (RL.lcut hr h)
 |_,_,.tup cs vs hr,h=>.tup cs vs (RL.lcut hr h)
 |_,_,.lst0 e a cap he,_=>.lst0 e a cap he
 |_,_,.lst e xs b o es cap cs hne he hle hZ hes hx hr hc,h=>.lst e xs b o es cap cs hne he hle hZ hes hx (RL.lcut hr (lows_flat h)) hc
 |_,_,.eptr cs off b o vs hne hZ hr hc,h=>.eptr cs off b o vs hne hZ (RL.lcut hr h) hc
 |_,_,.ptr id s i off l a hk hs hp,h=>.ptr id s i off l a (by simp [low] at h;simp [gcut,h,hk]) hs hp
 |_,_,.sref es id s off len l a cap hk he hs hle ha hp,h=>.sref es id s off len l a cap (by simp [low] at h;simp [gcut,h,hk]) he hs hle ha hp
 |_,_,.map id b l hk hm hb,h=>.map id b l (by simp [low] at h;simp [gcut,h,hk]) hm hb
 |_,_,.nilp,_=>.nilp
 |_,_,.nilm,_=>.nilm
 |_,_,.fn f cs vs hlt hr,h=>.fn f cs vs hlt (RL.lcut hr h)
 |_,_,.bf f cs vs hlt hr,h=>.bf f cs vs hlt (RL.lcut hr h)
 |_,_,.nilf,_=>.nilf
 |_,_,.ifc t v x hr,h=>.ifc t v x (R.cut hr h)
 |_,_,.nili,_=>.nili
 |_,_,.yl f id cs l bb r ct hge hk hm hb hr hf hc,h=>.yl f id cs l bb r ct hge (by simp [low] at h;simp [gcut,h.1,hk]) hm hb hr hf (RL.lcut hc (by simp [low] at h;exact h.2))
theorem RL.lcut {g:Gh} {w:World} {b:Nat}:∀ {vs:List FV} {xs:List Value},RL g w vs xs→lows b vs=true→RL (gcut g b) w vs xs
 |_,_,.nil,_=>.nil
 |_,_,.cons v x vs xs hr hs,h=>.cons v x vs xs (R.cut hr (by simp [lows] at h;exact h.1)) (RL.lcut hs (by simp [lows] at h;exact h.2))
end
theorem low_hget {b:Nat}:∀ {h:Heap},lowHeap b h=true→∀ i o,hget h i=some o→lowObj b o=true:=by
 intro h
 induction h with
 |nil=>intro _ i o ho;simp [hget] at ho
 |cons p r ih =>
  obtain ⟨j,q⟩:=p
  intro hl i o ho
  simp only [lowHeap,Bool.and_eq_true] at hl
  simp only [hget] at ho
  split at ho
  ·cases ho;exact hl.1
  ·exact ih hl.2 i o ho
theorem EnOk.cut {g:Gh} {w:World} {b:Nat} {en:List (FV × FV)} {es:List MapEntry} (he:EnOk g w en es) (hl:(en.all fun e=>low b e.1 && low b e.2)=true):EnOk (gcut g b) w en es:=by
 induction he with
 |nil=>exact .nil
 |cons k v e en es hk hv hs ih =>
  simp only [List.all_cons,Bool.and_eq_true] at hl
  exact .cons k v e en es (hk.cut hl.1.1) (hv.cut hl.1.2) (ih hl.2)
theorem Inv.cut {g:Gh} {h:Heap} {w:World} {b:Nat} (hI:Inv B w0 g h w) (hl:lowHeap b (cutH b h)=true):Inv B w0 (gcut g b) (cutH b h) w:=by
 have hk:∀ i l,(gcut g b).κ i=some l→i < b∧g.κ i=some l:=fun i l h=>by
  simp only [gcut] at h
  split at h
  ·exact ⟨by assumption,h⟩
  ·cases h
 refine ⟨fun i l h1=>?_,fun i o l h1 h2=>?_,fun i j li lj bb h1 h2=>hI.inj i j li lj bb (hk i li h1).2 (hk j lj h2).2,fun i l bb h1=>by rw [hget_cutH,if_pos (hk i l h1).1];exact hI.own i l bb (hk i l h1).2,hI.zlt,hI.below,hI.size⟩
 ·obtain ⟨h2,h3⟩:=hk i l h1
  obtain ⟨o,ho⟩:=hI.dom i l h3
  exact ⟨o,by rw [hget_cutH,if_pos h2];exact ho⟩
 ·have hlo:=low_hget hl i o h1
  obtain ⟨h3,h4⟩:=hk i l h2
  rw [hget_cutH,if_pos h3] at h1
  have:=hI.obj i o l h1 h4
  cases o with
  |row es xs =>
   obtain ⟨k1,k2,k3,k4,k5,k6,k7⟩:=(this:RowOk g w l es xs)
   refine ⟨k1,k2,k3,k4,k5,k6,fun bb hb=>?_⟩
   obtain ⟨arr,t,q1,q2,q3,cs,q4,q5⟩:=k7 bb hb
   exact ⟨arr,t,q1,q2,q3,cs,q4.lcut (lows_flat hlo),q5⟩
  |fro es xs =>
   obtain ⟨⟨k1,k2,k3,k4,k5,k6,k7⟩,k8⟩:=(this:RowOk g w l es xs∧∀ b,l.blk=some b→g.Z b)
   refine ⟨⟨k1,k2,k3,k4,k5,k6,fun bb hb=>?_⟩,k8⟩
   obtain ⟨arr,t,q1,q2,q3,cs,q4,q5⟩:=k7 bb hb
   exact ⟨arr,t,q1,q2,q3,cs,q4.lcut (lows_flat hlo),q5⟩
  |mp en =>
   obtain ⟨k1,k1',bb,es,clock,q1,q2,q3,q4⟩:=(this:MapOk g w l en)
   exact ⟨k1,k1',bb,es,clock,q1,q2,q3.cut hlo,q4⟩
  |lp st jp=>exact (this:LpOk w l st jp)
  |fmp en =>
   obtain ⟨⟨k1,k1',bb,es,clock,q1,q2,q3,q4⟩,k2⟩:=(this:MapOk g w l en∧∀ b,l.blk=some b→g.Z b)
   exact ⟨⟨k1,k1',bb,es,clock,q1,q2,q3.cut hlo,q4⟩,k2⟩
  |mit=>exact ⟨(this:MitOk g w l).hmp,(this:MitOk g w l).hlp,(this:MitOk g w l).hsize,(this:MitOk g w l).hsome⟩
  |sit s pos=>exact (this:SitOk w l s pos)
theorem lowTm_gt {b:Nat}:∀ {m:Tm},lowTm b m=true→∀ t,low b (gt m t)=true:=by
 intro m
 induction m with
 |nil=>intro _ t;simp [gt,low]
 |cons p r ih =>
  obtain ⟨i,v⟩:=p
  intro hl t
  simp only [lowTm,Bool.and_eq_true] at hl
  simp only [gt]
  split
  ·exact hl.1
  ·exact ih hl.2 t
theorem RT.cut {g:Gh} {w:World} {m:Tm} {a:Act} {b:Nat} (hm:RT g w m a) (hl:lowTm b m=true):RT (gcut g b) w m a:=⟨fun t=>(hm t).cut (lowTm_gt hl t),fun k cs hk=>(hm.gl k cs hk).cut (by
  simp only [low]
  exact lows_of_pures _ (Sys.glp k cs hk))⟩
theorem gcut_gcut {g:Gh} {b c:Nat} (h:c ≤ b):gcut (gcut g b) c=gcut g c:=by
 unfold gcut
 congr 1
 funext i
 by_cases hi:i < c
 ·simp [hi,show i < b by omega]
 ·simp [hi]
theorem gcut_fresh {g:Gh} {h:Heap} {w:World} {nx:Nat} (hI:Inv B w0 g h w) (hf:Fresh h nx):gcut g nx=g:=by
 obtain ⟨κ,Z⟩:=g
 unfold gcut
 congr 1
 funext i
 by_cases hi:i < nx
 ·simp [hi]
 ·simp [hi];exact (kNone hI (hf i (by omega))).symm
theorem GLe.cut {g g1:Gh} {w w1:World} (h:GLe g g1 w w1) (b:Nat):GLe (gcut g b) (gcut g1 b) w w1:=by
 refine ⟨h.z,h.heap,fun i l hl=>?_⟩
 simp only [gcut] at hl ⊢
 split at hl
 ·rename_i hi
  obtain ⟨l',k1,k2⟩:=h.k i l hl
  exact ⟨l',by simp [hi,k1],k2⟩
 ·cases hl
theorem Nx.cutTrans {g g1 g2:Gh} {h1 h2:Heap} {w w1 w2:World} {β:Nat} (x:Nx B w0 g g1 h1 w w1) (y:Nx B w0 (gcut g1 β) g2 h2 w1 w2):Nx B w0 (gcut g β) g2 h2 w w2 :=
 ⟨y.inv,(x.le.cut β).trans y.le,fun b hb=>by
  rcases y.z b hb with h | h
  ·exact x.z b h
  ·exact .inr h,Nat.le_trans x.sz y.sz⟩
def Ran (P:Program) (nt:Nat) (K0:List Item) (B:Nat) (w0:World) (b:Frame) (cs:List Frame) (β:Nat) (g:Gh) (h:Heap) (w:World) (a:Act) (K:List Item) (ex:Ex) (m':Tm) (h':Heap):Prop :=
 ∃ g' a' w' K' ms fr,Steps P (lone (b.atR a K) cs w) (lone fr cs w')∧EndF K0 b a' K' fr g' w' ex∧RT g' w' m' a'∧a'.tmps.size=nt∧a'.defers=ms ++ a.defers∧Marks g' w' w.heap.size ms∧Nx B w0 (gcut g β) g' h' w w'∧KNew g g' h h' (fun i=>β ≤ i)
theorem Ran.step {b:Frame} {cs:List Frame} {β:Nat} {g:Gh} {w:World} {a:Act} {K K1:List Item} {ex:Ex} {m':Tm} {h h':Heap} (hs:Steps P (lone (b.atR a K) cs w) (lone (b.atR a K1) cs w))
  (hr:Ran P nt K0 B w0 b cs β g h w a K1 ex m' h'):Ran P nt K0 B w0 b cs β g h w a K ex m' h':=by
 obtain ⟨g',a',w',K',ms,fr,h1,h2⟩:=hr
 exact ⟨g',a',w',K',ms,fr,hs.trans h1,h2⟩
theorem Ran.seq {b:Frame} {cs:List Frame} {β:Nat} {g g1:Gh} {w w1:World} {a a1:Act} {K K1:List Item} {ex:Ex} {m':Tm} {h h1 h':Heap} {ms:List Deferred}
  (hs:Steps P (lone (b.atR a K) cs w) (lone (b.atR a1 K1) cs w1)) (hn:Nx B w0 g g1 h1 w w1) (hk:KNew g g1 h h1 (fun i=>β ≤ i)) (hd:a1.defers=ms ++ a.defers) (hm:Marks g1 w1 w.heap.size ms)
  (hr:Ran P nt K0 B w0 b cs β g1 h1 w1 a1 K1 ex m' h'):Ran P nt K0 B w0 b cs β g h w a K ex m' h':=by
 obtain ⟨g',a',w',K',ms',fr,r1,r2,r3,r4,r5,r5',r6,r7⟩:=hr
 refine ⟨g',a',w',K',ms' ++ ms,fr,hs.trans r1,r2,r3,r4,by rw [r5,hd,List.append_assoc],?_,hn.cutTrans r6,fun i hi hki=>?_⟩
 ·exact Marks.append (Marks.mono (g:=g1) (Nat.le_refl _) r6.le.z r6.le.heap hm) hn.sz (fun d hd r e=>by
   have:=Marks.mem hm hd
   obtain ⟨r',e',hz⟩:=this
   rw [e] at e'
   cases e'
   exact hn.inv.zlt r hz) r5'
 ·have p1:=hk i hi hki
  have p2:=r7 i hi p1.1
  exact ⟨p2.1,p2.2.trans p1.2⟩
theorem Nx.here {g:Gh} {h:Heap} {w:World} (hI:Inv B w0 g h w) (β:Nat):Nx B w0 (gcut g β) g h w w :=
 ⟨hI,⟨fun _ h=>h,fun _ _=>rfl,fun i l hl=>by
  simp only [gcut] at hl
  split at hl
  ·exact ⟨l,hl,Nat.le_refl _,rfl,fun _=>rfl⟩
  ·cases hl⟩,fun _ h=>.inl h,Nat.le_refl _⟩
theorem Ran.here {b:Frame} {cs:List Frame} {β:Nat} {g:Gh} {w:World} {a:Act} {K:List Item} {ex:Ex} {m:Tm} {h:Heap} (he:EndF K0 b a K (b.atR a K) g w ex) (hm:RT g w m a) (hs:a.tmps.size=nt) (hI:Inv B w0 g h w):Ran P nt K0 B w0 b cs β g h w a K ex m h :=
 ⟨g,a,w,K,[],_,.refl _ _,he,hm,hs,rfl,trivial,.here hI β,fun _ _ h=>⟨h,rfl⟩⟩
theorem ev_fn {m:Tm} {a:Act} {g:Gh} {w:World} (hm:RT g w m a) {x:X} {go:Operand} (hok:okX go x=true) {q:Nat} {caps:List FV} (hx:ev m x=.fn q caps) (hq:q < OB):∃ vs:List Value,a.eval go=.func (.func q) #[] vs.toArray∧q < RB∧RL g w caps vs:=by
 have:=R_okX hm hok
 rw [hx] at this
 exact R_fn this hq
theorem RL_tmps {m:Tm} {a:Act} {g:Gh} {w:World} (hm:RT g w m a):∀ ct:List Nat,RL g w (evs m (ct.map .t)) (ct.map fun t=>a.tmps.getD t undef)
 |[]=>.nil
 |t::ct=>.cons _ _ _ _ (hm t) (RL_tmps hm ct)
theorem RT.defers {g:Gh} {w:World} {m:Tm} {a:Act} (hm:RT g w m a) (ds:List Deferred):RT g w m { a with defers:=ds }:=⟨hm.rt,hm.gl⟩
theorem rf_steps {rdO:Nat→Option Rd} (hrk:∀ f r ct,RkOf P cm rdO f r ct→Sys.rk f r ct) (hcal:CalOk P (np cal)) {go:Operand} {ps:Array Tmp} {asg body:Code} {f:Nat} {x:X} {ct:List Nat} {m:Tm} {h h2:Heap} {nx nx2 q st jp β:Nat} {caps:List FV} {v:FV} (hx:ev m x=.fn q caps)
  (hc:np cal q (.yl f nx (evs m (ct.map .t))::caps) ((nx,.lp 0 0)::h) (nx + 1)=some (v,h2,nx2)) (hst:hget h2 nx=some (.lp st jp)) (hne:st ≠ 1) (hf:Fresh h nx)
  (hgo:okX go x=true) (hge:RB ≤ f) {g:Gh} {w:World} {a:Act} {b:Frame} {cs:List Frame} {k:List Item} (hro:Rnd β g b) (hrd:∀ r:Loop,r.tmps=a.tmps→r.params=ps→r.assign=asg→r.body=body→RkOf P cm rdO f r ct)
  (hm:RT g w m a) (hI:Inv B w0 g h w) :
  ∃ g1 a1 w1 mk,Steps P (lone (b.atR a (.code (.rangeFunc go ps asg body)::k)) cs w) (lone (b.atR a1 (((jpO jp).map Item.code).toList ++ k)) cs w1)∧RT g1 w1 m a1∧a1.tmps.size=a.tmps.size∧a1.defers=mk ++ a.defers∧Marks g1 w1 w.heap.size mk ∧
   Nx B w0 g g1 (hset h2 nx (.lp 3 jp)) w w1∧KNew g g1 h (hset h2 nx (.lp 3 jp)) (fun i=>nx ≤ i):=by
 obtain ⟨vs,hev,hq,hcaps⟩:=ev_fn hm hgo hx (hcal.lt _ _ _ _ _ _ _ hc)
 have hn:hget h nx=none:=hf nx (Nat.le_refl _)
 obtain ⟨g1,w1,l,mark,r,d1,d2,d3,d4,he,k1,k3,k4,k5,k6,k7⟩:=enter_any P hI hro hn a.tmps ps asg body
 have hkn:g1.κ nx=some ⟨some l,0,0,0,true,some r⟩:=by rw [k1];simp [upd]
 have hm1:RT g1 w1 m a:=hm.mono k4
 have hyl:R g1 w1 (.yl f nx (evs m (ct.map .t))) (.func (.yield l) #[] #[]) :=
  .yl f nx _ _ _ r ct hge hkn rfl rfl rfl (hrk _ _ _ (hrd r d1 d2 d3 d4)) (by
   rw [d1];exact RL_tmps hm1 ct)
 have hfr1:Fresh ((nx,.lp 0 0)::h) (nx + 1):=fun i hi=>by rw [hget_cons,if_neg (by omega)];exact hf i (by omega)
 obtain ⟨e1,e2⟩:=hcal.fn _ _ _ _ _ _ _ hc hq
 have hcall:=e2 B w0 g1 w1 (.func (.yield l) #[] #[]::vs) k3 hm1.gl (.cons _ _ _ _ hyl (hcaps.mono k4)) hfr1
 obtain ⟨e,w2,fr,⟨y,g2,rfl,hy,hN2,hK2⟩,hsteps,hfn,hleave⟩:=hcall (b.atR { a with defers:=mark ++ a.defers } (.inRangeFunc l::k)::cs)
 have hres:(resolve a.eval (rangeCall go l) 0).run P w1=.ok { target:=.fn (.func q) vs.toArray,args:=#[.func (.yield l) #[] #[]] } w1:=by
  simp only [resolve,hev]
  simp [go_sem]
 have hinv:(invoke (.fn (.func q) vs.toArray) #[.func (.yield l) #[] #[]]).run P w1=.ok (.enter q (.func (.yield l) #[] #[]::vs).toArray) w1:=by
  have:=run_callFunc e1 (#[.func (.yield l) #[] #[]] ++ vs.toArray) w1
  simp only [invoke]
  rw [this]
  simp
 have h1:=stepR_rangeFunc (P:=P) (b:=b) (a:=a) (k:=k) (cs:=cs) (w:=w) he hres hinv
 obtain ⟨loc,hl1,hl2,hl3,hl4⟩:=hN2.le.k nx _ hkn
 have hleq:=hl4 (.inr rfl)
 subst hleq
 obtain ⟨bq,rq,p1,p2,p3,p4,p5,p6,p7⟩:=write_loop hN2.inv hst hl1 3 jp
 simp only [Option.some.injEq] at p1 p2
 subst p1;subst p2
 have hend:=run_endLoop (P:=P) p4 (by
  match st,hne with
  |0,_=>simp [stO]
  |1,h=>exact absurd rfl h
  |2,_=>simp [stO]
  |n + 3,_=>simp [stO])
 have h2':=stepR_endRangeFunc (P:=P) (b:=b) (a:={ a with defers:=mark ++ a.defers }) (k:=k) (cs:=cs) hend
 have h3:=step_leave_returned (c:=b.atR { a with defers:=mark ++ a.defers } (.inRangeFunc l::k)) (cs:=cs) hleave
 rw [finish_atR_inRangeFunc] at h3
 have hle:GLe g g2 w (w2.putObj l (.loop { r with state:=stO 3,pending:=jpO jp })):=(k4.trans hN2.le).trans p7
 refine ⟨g2,_,_,mark,Steps.trans (.one h1) (Steps.trans hsteps (Steps.trans (.one h3) (.one h2'))),(hm.mono hle).defers _,rfl,rfl,?_,?_,?_⟩
 ·exact Marks.mono (g:=g1) (Nat.le_refl _) (fun b hb=>(hN2.le.trans p7).z b hb) (fun b hb=>(hN2.le.trans p7).heap b hb) k7
 ·refine ⟨p6,hle,fun bb hb=>?_,?_⟩
  ·rcases hN2.z bb hb with hz | hz
   ·exact (k5 bb hz).imp id (Nat.le_trans hI.size)
   ·exact .inr hz
  ·have:=hN2.sz
   simp only [World.putObj_size]
   omega
 ·intro i hi hki
  have hi:i < nx:=by omega
  have:g1.κ i=none:=by rw [k1];simp [upd,hki];omega
  obtain ⟨q1,q2⟩:=hK2 i (by omega) this
  refine ⟨q1,?_⟩
  rw [hget_hset hst,if_neg (by omega),q2,hget_cons,if_neg (by omega)]
theorem run_sound {rdO:Nat→Option Rd} (hrk:∀ f r ct,RkOf P cm rdO f r ct→Sys.rk f r ct) (hcalP:CalOkP P cal) (hst:Stable (np cal) cm) (hmix:P.follows .mixedOrders=true):∀ (n:Nat) (todo:List I) (m:Tm) (h:Heap) (nx:Nat) (ex:Ex) (m':Tm) (h':Heap) (nx':Nat),
  run cal n todo m h nx=some (ex,m',h',nx')→(∀ K β,Todo P cm rdO nt K0 K todo→Base β todo→β ≤ nx→Fresh h nx→(β ≤ nx'∧Fresh h' nx'∧∀ i < β,hget h i=none→hget h' i=none) ∧
   ∀ (g:Gh) (w:World) (a:Act) (b:Frame) (cs:List Frame),Rnd β g b→Begs β g b todo→RT g w m a→a.tmps.size=nt→Inv B w0 g h w→Ran P nt K0 B w0 b cs β g h w a K ex m' h'):=by
 have hcal:=hcalP.np
 intro n
 induction n with
 |zero=>intro todo m h nx ex m' h' nx' hr;simp [run] at hr
 |succ n ih =>
  intro todo m h nx ex m' h' nx' hr K β hK hB hβ hf
  cases hK with
  |nil =>
   simp only [run,Option.some.injEq,Prod.mk.injEq] at hr
   obtain ⟨rfl,rfl,rfl,rfl⟩:=hr
   exact ⟨⟨hβ,hf,fun _ _ h=>h⟩,fun g w a b cs _ _ hm hs hI=>.here ⟨rfl,rfl⟩ hm hs hI⟩
  |inB id k l hs =>
   simp only [run] at hr
   obtain ⟨h1,h2⟩:=ih _ _ _ _ _ _ _ _ hr k β hs (fun b c hm=>hB b c (by simp [hm])) hβ hf
   exact ⟨h1,fun g w a b cs hro hbg hm hsz hI=>(h2 g w a b cs hro (hbg.sub fun _ h=>by simp [h]) hm hsz hI).step (.one stepR_inBlock)⟩
  |inS c d k l hok hs =>
   simp only [run] at hr
   obtain ⟨h1,h2⟩:=ih _ _ _ _ _ _ _ _ hr k β hs (fun b c hm=>hB b c (by simp [hm])) hβ hf
   exact ⟨h1,fun g w a b cs hro hbg hm hsz hI=>(h2 g w a b cs hro (hbg.sub fun _ h=>by simp [h]) hm hsz hI).step (.one stepR_inScope)⟩
  |beg id k l hs =>
   simp only [run] at hr
   split at hr
   ·rename_i jp hg
    obtain ⟨⟨q1,q3,q4⟩,q2⟩:=ih _ _ _ _ _ _ _ _ hr k β hs (fun b c hm=>hB b c (by simp [hm])) hβ (fun i hi=>hset_none hg i (hf i hi))
    refine ⟨⟨q1,q3,fun i hi hn=>q4 i hi (hset_none hg i hn)⟩,fun g w a b cs hro hbg hm hsz hI=>?_⟩
    obtain ⟨hid,q,loc,b1,b2,b3,b4⟩:=hbg id (by simp)
    obtain ⟨bq,rq,p1,p2,p3,p4,p5,p6,p7⟩:=write_loop hI hg b2 1 jp
    rw [b3] at p1;cases p1
    have hstep:=stepR_beginRound (P:=P) (b:=b) (a:=a) (k:=k) (cs:=cs) b1 (run_beginRound p4 rfl)
    have hN:Nx B w0 g g (hset h id (.lp 1 jp)) w (w.putObj q (.loop { rq with state:=stO 1,pending:=jpO jp })):=⟨p6,p7,fun _ h=>.inl h,by simp⟩
    refine Ran.seq (ms:=[]) (.one hstep) hN (fun i hi hk=>⟨hk,?_⟩) rfl trivial (q2 g _ a b cs (hro.le p7) ((hbg.sub fun _ h=>by simp [h]).le p7) (hm.mono p7) hsz p6)
    rw [hget_hset hg]
    split
    ·rename_i e;subst e;rw [b2] at hk;cases hk
    ·rfl
   ·simp at hr
  |inL c d t k l hok hs =>
   cases t with
   |none =>
    simp only [run] at hr
    obtain ⟨h1,h2⟩:=ih _ _ _ _ _ _ _ _ hr _ β (.code c d _ _ hok (.inL c d none k l hok hs)) (fun b c hm=>hB b c (by simpa using hm)) hβ hf
    exact ⟨h1,fun g w a b cs hro hbg hm hsz hI=>(h2 g w a b cs hro (hbg.sub fun _ h=>by simpa using h) hm hsz hI).step (.one stepR_inLoop)⟩
   |some bb =>
    simp only [run] at hr
    obtain ⟨⟨c1,c2,c3⟩,hr⟩:=chk_some hr
    have hbb:β ≤ bb:=hB bb d (by simp)
    obtain ⟨⟨h1,h2,h3⟩,h4⟩:=ih _ _ _ _ _ _ _ _ hr _ β (.code c d _ _ hok (.inL c d (some bb) k l hok hs)) (fun b c hm=>hB b c (by simpa using hm)) hbb (fun i hi=>by rw [hget_cutH,if_neg (by omega)])
    refine ⟨⟨h1,h2,fun i hi hn=>h3 i hi (by rw [hget_cutH];split;exact hn;rfl)⟩,fun g w a b cs hro hbg hm hsz hI=>?_⟩
    obtain ⟨g',a',w',K',ms,fr,r1,r2,r3,r4,r5,r5',r6,r7⟩:=h4 (gcut g bb) w a b cs (hro.cut hbb) ((hbg.sub fun _ h=>by simpa using h).cut hbb) (hm.cut c2) hsz (hI.cut c3)
    rw [gcut_gcut hbb] at r6
    refine ⟨g',a',w',K',ms,fr,Steps.trans (.one stepR_inLoop) r1,r2,r3,r4,r5,r5',r6,fun i hi hk=>?_⟩
    have hib:i < bb:=by omega
    have:=r7 i hi (by simp [gcut,hib,hk])
    refine ⟨this.1,?_⟩
    rw [this.2,hget_cutH,if_pos hib]
  |code c d k l hok hs =>
   cases d with
   |bad=>simp only [run] at hr;cases hr
   |sk =>
    simp only [run] at hr
    obtain ⟨h1,h2⟩:=ih _ _ _ _ _ _ _ _ hr k β hs (fun b c hm=>hB b c (by simp [hm])) hβ hf
    refine ⟨h1,fun g w a b cs hro hbg hm hsz hI=>?_⟩
    have hbg:=hbg.sub (l':=l) fun _ h=>by simp [h]
    cases c<;>simp only [okC,Bool.false_eq_true] at hok
    exact (h2 g w a b cs hro hbg hm hsz hI).step (.one stepR_skip)
   |lb t =>
    simp only [run] at hr
    obtain ⟨h1,h2⟩:=ih _ _ _ _ _ _ _ _ hr k β hs (fun b c hm=>hB b c (by simp [hm])) hβ hf
    refine ⟨h1,fun g w a b cs hro hbg hm hsz hI=>?_⟩
    have hbg:=hbg.sub (l':=l) fun _ h=>by simp [h]
    cases c<;>simp only [okC,Bool.false_eq_true] at hok
    exact (h2 g w a b cs hro hbg hm hsz hI).step (.one stepR_label)
   |sc x =>
    cases c<;>simp only [okC,Bool.false_eq_true] at hok
    simp only [run] at hr
    obtain ⟨h1,h2⟩:=ih _ _ _ _ _ _ _ _ hr _ β (.code _ x _ _ hok (.inS _ x _ _ hok hs)) (fun b c hm=>hB b c (by simpa using hm)) hβ hf
    exact ⟨h1,fun g w a b cs hro hbg hm hsz hI=>(h2 g w a b cs hro (hbg.sub fun _ h=>by simpa using h) hm hsz hI).step (.one stepR_scope)⟩
   |go t =>
    cases c<;>simp only [okC,Bool.false_eq_true] at hok
    simp only [beq_iff_eq] at hok
    subst hok
    simp only [run] at hr
    obtain ⟨x1,x2⟩:=goto_todo (P:=P) (cm:=cm) (rdO:=rdO) (nt:=nt) _ hs
    split at hr
    ·rename_i l' hl
     obtain ⟨k',hk',hs'⟩:=x1 _ hl
     have hmem:=go_mem _ _ _ hl
     obtain ⟨h1,h2⟩:=ih _ _ _ _ _ _ _ _ hr _ β hs' (fun b c hm=>by
      rcases hmem _ hm with ⟨_,e⟩ | e
      ·cases e
      ·exact hB b c (List.mem_cons_of_mem _ e)) hβ hf
     exact ⟨h1,fun g w a b cs hro hbg hm hsz hI=>(h2 g w a b cs hro (hbg.sub fun _ h=>by
      rcases hmem _ h with ⟨_,e⟩ | e
      ·cases e
      ·exact List.mem_cons_of_mem _ e) hm hsz hI).step (.one (stepR_goto hk'))⟩
    ·simp at hr
   |rf f x ct =>
    cases c<;>simp only [okC,Bool.false_eq_true] at hok
    rename_i go ps asg body
    simp only [Bool.and_eq_true,decide_eq_true_eq] at hok
    obtain ⟨⟨hgo,hge⟩,hrd⟩:=hok
    simp only [run] at hr
    split at hr
    ·rename_i q caps hx
     obtain ⟨⟨v,h2,nx2⟩,k1,hr⟩:=bnd_some hr
     simp only at hr
     split at hr
     ·rename_i st jp hg2
      obtain ⟨hne,hr⟩:=chk_some hr
      have hfr1:Fresh ((nx,.lp 0 0)::h) (nx + 1):=fun i hi=>by rw [hget_cons,if_neg (by omega)];exact hf i (by omega)
      have hnew:=hcal.new _ _ _ _ _ _ _ k1 hfr1
      have hfr2:Fresh (hset h2 nx (.lp 3 jp)) nx2:=fun i hi=>hset_none hg2 i (hnew.fresh hfr1 i hi)
      have hold:∀ i < β,hget h i=none→hget (hset h2 nx (.lp 3 jp)) i=none:=fun i hi hn=>hset_none hg2 i (hnew.2 i (by rw [hget_cons,if_neg (by omega)];exact hn) (.inl (by omega)))
      have hβ2:β ≤ nx2:=by have:=hnew.1;omega
      have main:∀ (K1:List Item) (l1:List I),Todo P cm rdO nt K0 K1 l1→(∀ b c,I.inL (some b) c ∈ l1→I.inL (some b) c ∈ l)→(∀ id,I.beg id ∈ l1→I.beg id ∈ l)→((jpO jp).map Item.code).toList ++ k=K1 →
        run cal n l1 m (hset h2 nx (.lp 3 jp)) nx2=some (ex,m',h',nx')→(β ≤ nx'∧Fresh h' nx'∧∀ i < β,hget h i=none→hget h' i=none) ∧
        ∀ (g:Gh) (w:World) (a:Act) (b:Frame) (cs:List Frame),Rnd β g b→Begs β g b (.code (.rf f x ct)::l)→RT g w m a→a.tmps.size=nt→Inv B w0 g h w→Ran P nt K0 B w0 b cs β g h w a (.code (.rangeFunc go ps asg body)::k) ex m' h':=by
       intro K1 l1 hT hb1 hb2 hK1 hr1
       obtain ⟨⟨q1,q3,q4⟩,q2⟩:=ih _ _ _ _ _ _ _ _ hr1 K1 β hT (fun b c hm=>hB b c (by simp [hb1 b c hm])) hβ2 hfr2
       refine ⟨⟨q1,q3,fun i hi hn=>q4 i hi (hold i hi hn)⟩,fun g w a b cs hro hbg hm hsz hI=>?_⟩
       obtain ⟨g1,a1,w1,mk,s1,s2,s3,s4,s5,s6,s7⟩:=rf_steps (rdO:=rdO) (cs:=cs) (b:=b) (k:=k) (ps:=ps) (asg:=asg) (body:=body) hrk hcal hx k1 hg2 hne hf hgo hge hro (fun r e1 e2 e3 e4=>by
        split at hrd
        ·rename_i d hd
         simp only [Bool.and_eq_true,beq_iff_eq] at hrd
         obtain ⟨⟨⟨⟨c1,c2⟩,c3⟩,c4⟩,c5⟩:=hrd
         exact ⟨d,hd,c2.symm,by rw [e2];exact c1,by rw [e1,hsz];exact c3,by rw [e1,hsz,e3];exact c4,by rw [e1,hsz,e4];exact c5⟩
        ·simp at hrd) hm hI
       rw [hK1] at s1
       exact Ran.seq s1 s6 (fun i hi hk=>s7 i (by omega) hk) s4 s5 (q2 g1 w1 a1 b cs (hro.le s6.le) ((hbg.sub fun id h=>by simp [hb2 id h]).le s6.le) s2 (by rw [s3,hsz]) s6.inv)
      split at hr
      ·exact main k l hs (fun _ _ h=>h) (fun _ h=>h) rfl hr
      ·exact main (.code .ret::k) (.code .rt::l) (.code _ _ _ _ rfl hs) (fun _ _ h=>by simpa using h) (fun _ h=>by simpa using h) rfl hr
      ·exact main (.code (.exit _)::k) (.code (.xt _)::l) (.code _ _ _ _ (by simp [okC]) hs) (fun _ _ h=>by simpa using h) (fun _ h=>by simpa using h) rfl hr
     ·simp at hr
    ·simp at hr
   |rg d gs keep =>
    cases c<;>simp only [okC,Bool.false_eq_true] at hok
    rename_i rid ops draw
    simp only [run] at hr
    obtain ⟨⟨m1,h1,nx1⟩,k1,hr⟩:=bnd_some hr
    simp only at hr
    have hn:∀ j,nx ≤ j→j < nx + gs.length→hget h j=none:=fun j hj _=>hf j hj
    obtain ⟨e1,e2⟩:=rops_new hcal gs nx m h (nx + gs.length) m1 h1 nx1 hn (Nat.le_refl _) (fun i hi=>hf i (by omega)) k1
    have hf':Fresh h (nx + gs.length):=fun i hi=>hf i (by omega)
    have hnew1:New h h1 nx nx1:=⟨by omega,fun i hi hc=>e2 i hi (by omega) (by omega)⟩
    obtain ⟨⟨q1,q3,q4⟩,q2⟩:=ih _ _ _ _ _ _ _ _ hr k β hs (fun b c hm=>hB b c (by simp [hm])) (by omega) (hnew1.fresh hf:Fresh h1 nx1)
    refine ⟨⟨q1,q3,fun i hi hn=>q4 i hi (hnew1.2 i hn (.inl (by omega)))⟩,fun g w a b cs hro hbg hm hsz hI=>?_⟩
    have hbg:=hbg.sub (l':=l) fun _ h=>by simp [h]
    have after:∀ a1 w1,RegPost B w0 nt a g h w (fun i=>nx ≤ i∧i < nx1) m1 h1 .normal a1 w1→Steps P (lone (b.atR a (.code (.region rid ops draw)::k)) cs w) (lone (b.atR a1 k) cs w1) →
      Ran P nt K0 B w0 b cs β g h w a (.code (.region rid ops draw)::k) ex m' h':=by
     rintro a1 w1 ⟨_,g1,f1,f2,f3,f4,f5⟩ hsteps
     exact Ran.seq (ms:=[]) hsteps f4 (fun i hi hk=>f5 i (fun e=>hi (by omega)) hk) f3 trivial (q2 g1 w1 a1 b cs (hro.le f4.le) (hbg.le f4.le) (f1.keep keep) f2 f4.inv)
    have fin:∀ (l:List Nat) (wi:World),Steps P (lone (b.atR a (.code (.region rid ops draw)::k)) cs w) (lone (b.atR a (.inRegion ops l::k)) cs wi) →
      wpOpsIn (fb b.roundOf) 0 P ops (RegPost B w0 nt a g h w (fun i=>nx ≤ i∧i < nx1) m1 h1) l a wi→Ran P nt K0 B w0 b cs β g h w a (.code (.region rid ops draw)::k) ex m' h':=by
     intro l wi hs1 hwp
     obtain ⟨e,a1,w1,hq,harr⟩:=wp_opsIn l a wi hwp b k cs rfl trivial (room_fb _ _)
     have he:e=.normal:=hq.1
     subst he
     exact after a1 w1 hq (hs1.trans (StepsIn.steps harr))
    cases draw with
    |false =>
     cases d with | some=>simp at hok | none =>
     simp only at hok
     have hlen:=(okGs_get _ _ hok).1
     refine fin (List.range ops.size) w (.one stepR_region) ?_
     have hsz2:ops.size=gs.length:=by simpa using hlen
     rw [List.range_eq_range',hsz2]
     exact rops_sound hcal gs 0 nx m h (nx + gs.length) m1 h1 nx1 g w a (by simpa using hok) k1 hm hsz rfl (.refl hI) hn (Nat.le_refl _) hf' (fun _ _ h=>⟨h,rfl⟩) (fun j h1 h2=>⟨h1,by omega⟩) (fun j h1 h2=>⟨by omega,h2⟩)
    |true =>
     cases d with | none=>simp at hok | some pm =>
     simp only at hok
     refine fin _ w.drew (.one stepR_region_draw) ?_
     simp only [Region.schedule,hmix,Bool.true_or,if_true]
     refine wpAnyIn_sound ops.size _ _ a w.drew ?_
     have hh:=draw_sound (r:=b.roundOf) (n:=0) (a:=a) (w:=w.drew) (g:=g) (B:=B) (w0:=w0) hcal hst hok k1 (hm.mono (GLe.drew g w)) hsz hI.drew (fun j hj=>hf _ (by omega)) (Nat.le_refl _) hf' (NN:=fun i=>nx ≤ i∧i < nx1) (fun j h1 h2=>⟨h1,by omega⟩) (fun j h1 h2=>⟨by omega,h2⟩)
     have hpost:RegPost B w0 nt a g h w.drew (fun i=>nx ≤ i∧i < nx1) m1 h1=RegPost B w0 nt a g h w (fun i=>nx ≤ i∧i < nx1) m1 h1:=by
      funext e a' w'
      unfold RegPost
      apply propext
      constructor
      ·rintro ⟨e1,g',e2,e3,e4,e5,e6⟩
       exact ⟨e1,g',e2,e3,e4,⟨e5.inv,(GLe.drew g w).trans e5.le,e5.z,e5.sz⟩,e6⟩
      ·rintro ⟨e1,g',e2,e3,e4,e5,e6⟩
       exact ⟨e1,g',e2,e3,e4,⟨e5.inv,⟨e5.le.z,e5.le.heap,e5.le.k⟩,e5.z,e5.sz⟩,e6⟩
     rw [← hpost]
     exact hh
   |rp pm c0 kp gs keep =>
    cases c<;>try (simp only [okC,Bool.false_eq_true] at hok;done)
    rename_i rid ops draw
    cases draw<;>simp only [okC,Bool.false_eq_true] at hok
    simp only [Bool.and_eq_true] at hok
    obtain ⟨hdr,hpa⟩:=hok
    have hPn:=pan_of hpa
    simp only [run] at hr
    obtain ⟨⟨p1,m1,h1,nx1⟩,k1,hr2⟩:=bnd_some hr
    clear hr
    simp only at hr2
    have hn:∀ j,nx ≤ j→j < nx + gs.length→hget h j=none:=fun j hj _=>hf j hj
    have hf':Fresh h (nx + gs.length):=fun i hi=>hf i (by omega)
    have fin:∀ (Q:Exit→Act→World→Prop) (g:Gh) (w:World) (a:Act) (b:Frame) (cs:List Frame),wpAnyIn (fb b.roundOf) 0 P .any ops Q ops.size (Array.replicate ops.size false) a w.drew →
      ∃ e a1 w1 wi,Steps P (lone (b.atR a (.code (.region rid ops true)::k)) cs w) (lone (b.atR a (.inRegion ops wi::k)) cs w.drew)∧Q e a1 w1∧ArrivesIn (Machine.fenced P (fb b.roundOf)) P (lone (b.atR a (.inRegion ops wi::k)) cs w.drew) b k cs e a1 w1:=by
     intro Q g w a b cs hwp
     have:=wpAnyIn_sound ops.size (w.tape w.drawn (.order b.fn rid)) _ a w.drew hwp
     obtain ⟨e,a1,w1,hq,harr⟩:=wp_opsIn _ a w.drew this b k cs rfl trivial (room_fb _ _)
     refine ⟨e,a1,w1,_,.one stepR_region_draw,hq,?_⟩
     simp only [Region.schedule,hmix,Bool.true_or,if_true]
     exact harr
    rcases ropsD_some k1 hPn.lt hPn.gd with ⟨z,hz,hrun⟩ | ⟨x,f,as,u,h1',nx1',k2,ho,k3,hz⟩
    ·simp only [Prod.mk.injEq] at hz
     obtain ⟨rfl,rfl⟩:=hz
     simp only at hr2
     obtain ⟨e1,e2⟩:=rops_new hcal gs nx m h (nx + gs.length) m1 h1 nx1 hn (Nat.le_refl _) (fun i hi=>hf i (by omega)) hrun
     have hnew1:New h h1 nx nx1:=⟨by omega,fun i hi hc=>e2 i hi (by omega) (by omega)⟩
     obtain ⟨⟨q1,q3,q4⟩,q2⟩:=ih _ _ _ _ _ _ _ _ hr2 k β hs (fun b c hm=>hB b c (by simp [hm])) (by omega) (hnew1.fresh hf:Fresh h1 nx1)
     refine ⟨⟨q1,q3,fun i hi hn=>q4 i hi (hnew1.2 i hn (.inl (by omega)))⟩,fun g w a b cs hro hbg hm hsz hI=>?_⟩
     have hbg:=hbg.sub (l':=l) fun _ h=>by simp [h]
     have hh:=draw_sound (r:=b.roundOf) (n:=0) (a:=a) (w:=w.drew) (g:=g) (B:=B) (w0:=w0) hcal hst hdr hrun (hm.mono (GLe.drew g w)) hsz hI.drew (fun j hj=>hf _ (by omega)) (Nat.le_refl _) hf' (NN:=fun i=>nx ≤ i∧i < nx1) (fun j h1 h2=>⟨h1,by omega⟩) (fun j h1 h2=>⟨by omega,h2⟩)
     obtain ⟨e,a1,w1,wi,hst1,⟨rfl,g1,f1,f2,f3,f4,f5⟩,harr⟩:=fin _ g w a b cs hh
     have f4':Nx B w0 g g1 h1 w w1:=⟨f4.inv,(GLe.drew g w).trans f4.le,f4.z,f4.sz⟩
     exact Ran.seq (ms:=[]) (hst1.trans (StepsIn.steps harr)) f4' (fun i hi hk=>f5 i (fun e=>hi (by omega)) hk) f3 trivial (q2 g1 w1 a1 b cs (hro.le f4'.le) (hbg.le f4'.le) (f1.keep keep) f2 f4.inv)
    ·simp only [Prod.mk.injEq] at hz
     obtain ⟨rfl,rfl,rfl,rfl⟩:=hz
     simp only [Option.some.injEq,Prod.mk.injEq] at hr2
     obtain ⟨rfl,rfl,rfl,rfl⟩:=hr2
     have hpre:=rops_new hcal (gs.take c0) nx m1 h (nx + gs.length) x.1 x.2.1 x.2.2 (fun j hj hj'=>hf j hj) (by simp;omega) hf' k2
     obtain ⟨_,_,_,_,ex3,ex4,_⟩:=pre_vals hst (draw_of hdr).dst hPn k2
     rw [ex3,ex4] at k3
     have hnewc:=hcalP.new _ _ _ _ _ _ _ k3 hf'
     have hnew1:New h h1 nx nx1:=⟨by have:=hnewc.1;omega,fun i hi hc=>hnewc.2 i hi (by rcases hc with hc | hc;exact .inl (by omega);exact .inr hc)⟩
     refine ⟨⟨by have:=hnew1.1;omega,hnew1.fresh hf,fun i hi hn=>hnew1.2 i hn (.inl (by omega))⟩,fun g w a b cs hro hbg hm hsz hI=>?_⟩
     have hh:=pan_sound (r:=b.roundOf) (n:=0) (a:=a) (w:=w.drew) (g:=g) (B:=B) (w0:=w0) hcalP hst hdr hpa k2 ho (by rw [ex3,ex4];exact k3) (hm.mono (GLe.drew g w)) hsz hI.drew (fun j hj=>hf _ (by omega)) (Nat.le_refl _) hf' (NN:=fun i=>nx ≤ i∧i < nx1) (fun j h1 h2=>⟨h1,by have:=hnewc.1;omega⟩) (fun j h1 h2=>⟨by omega,h2⟩)
     obtain ⟨e,a1,w1,wi,hst1,⟨g1,f1,f2,f3,f4,f5,y,f6,f7⟩,harr⟩:=fin _ g w a b cs hh
     subst f6
     obtain ⟨todo,hs1⟩:=harr
     have f4':Nx B w0 g g1 h1 w w1:=⟨f4.inv,(GLe.drew g w).trans f4.le,f4.z,f4.sz⟩
     refine ⟨g1,a1,w1,todo,[],_,hst1.trans (StepsIn.steps hs1),⟨y,f7,rfl⟩,f1,f2,f3,trivial,⟨f4'.inv,⟨fun _ h=>f4'.le.z _ h,fun _ h=>f4'.le.heap _ h,fun i l hl=>?_⟩,fun b hb=>f4'.z b hb,f4'.sz⟩,fun i hi hk=>f5 i (fun e=>hi (by omega)) hk⟩
     simp only [gcut] at hl
     split at hl
     ·exact f4'.le.k i l hl
     ·cases hl
   |rq gs keep =>
    cases c<;>try (simp only [okC,Bool.false_eq_true] at hok;done)
    rename_i rid ops draw
    cases draw<;>simp only [okC,Bool.false_eq_true] at hok
    simp only [run] at hr
    obtain ⟨⟨p1,m1,h1,nx1⟩,k1,hr⟩:=bnd_some hr
    simp only at hr
    have hn:∀ j,nx ≤ j→j < nx + gs.length→hget h j=none:=fun j hj _=>hf j hj
    obtain ⟨e1,e2⟩:=ropsP_new hcalP gs nx m h (nx + gs.length) p1 m1 h1 nx1 hn (Nat.le_refl _) (fun i hi=>hf i (by omega)) k1
    have hf':Fresh h (nx + gs.length):=fun i hi=>hf i (by omega)
    have hnew1:New h h1 nx nx1:=⟨by omega,fun i hi hc=>e2 i hi (by omega) (by omega)⟩
    have hlen:=okGPs_len hok
    have hsz2:ops.size=gs.length:=by simpa using hlen
    have fin:∀ (g:Gh) (w:World) (a:Act) (b:Frame) (cs:List Frame),RT g w m a→a.tmps.size=nt→Inv B w0 g h w →
      ∃ e a1 w1,RegPostP B w0 nt a g h w (fun i=>nx ≤ i∧i < nx1) p1 m1 h1 e a1 w1∧ArrivesIn (Machine.fenced P (fb b.roundOf)) P (lone (b.atR a (.inRegion ops (List.range ops.size)::k)) cs w) b k cs e a1 w1:=by
     intro g w a b cs hm hsz hI
     have hwp:=ropsP_sound (r:=b.roundOf) (n:=0) (ops:=ops) (P:=P) (nt:=nt) (B:=B) (w0:=w0) (N:=fun i=>nx ≤ i∧i < nx1) hcalP gs 0 nx m h (nx + gs.length) p1 m1 h1 nx1 g w a (by simpa using hok) k1 hm hsz rfl (.refl hI) hn (Nat.le_refl _) hf' (fun _ _ h=>⟨h,rfl⟩) (fun j h1 h2=>⟨h1,by omega⟩) (fun j h1 h2=>⟨by omega,h2⟩)
     rw [List.range_eq_range',hsz2]
     exact wp_opsIn _ a w hwp b k cs rfl trivial (room_fb _ _)
    cases p1 with
    |none =>
     simp only at hr
     obtain ⟨⟨q1,q3,q4⟩,q2⟩:=ih _ _ _ _ _ _ _ _ hr k β hs (fun b c hm=>hB b c (by simp [hm])) (by omega) (hnew1.fresh hf:Fresh h1 nx1)
     refine ⟨⟨q1,q3,fun i hi hn=>q4 i hi (hnew1.2 i hn (.inl (by omega)))⟩,fun g w a b cs hro hbg hm hsz hI=>?_⟩
     have hbg:=hbg.sub (l':=l) fun _ h=>by simp [h]
     obtain ⟨e,a1,w1,⟨g1,f1,f2,f3,f4,f5,f6⟩,harr⟩:=fin g w a b cs hm hsz hI
     subst f6
     exact Ran.seq (ms:=[]) (Steps.trans (.one stepR_region) (StepsIn.steps harr)) f4 (fun i hi hk=>f5 i (fun e=>hi (by omega)) hk) f3 trivial (q2 g1 w1 a1 b cs (hro.le f4.le) (hbg.le f4.le) (f1.keep keep) f2 f4.inv)
    |some u =>
     simp only [Option.some.injEq,Prod.mk.injEq] at hr
     obtain ⟨rfl,rfl,rfl,rfl⟩:=hr
     refine ⟨⟨by omega,hnew1.fresh hf,fun i hi hn=>hnew1.2 i hn (.inl (by omega))⟩,fun g w a b cs hro hbg hm hsz hI=>?_⟩
     obtain ⟨e,a1,w1,⟨g1,f1,f2,f3,f4,f5,x,f6,f7⟩,harr⟩:=fin g w a b cs hm hsz hI
     subst f6
     obtain ⟨todo,hs1⟩:=harr
     refine ⟨g1,a1,w1,todo,[],_,Steps.trans (.one stepR_region) (StepsIn.steps hs1),⟨x,f7,rfl⟩,f1,f2,f3,trivial,⟨f4.inv,⟨fun _ h=>f4.le.z _ h,fun _ h=>f4.le.heap _ h,fun i l hl=>?_⟩,fun b hb=>f4.z b hb,f4.sz⟩,fun i hi hk=>f5 i (fun e=>hi (by omega)) hk⟩
     simp only [gcut] at hl
     split at hl
     ·exact f4.le.k i l hl
     ·cases hl
   |sq x y =>
    cases c<;>simp only [okC,Bool.false_eq_true] at hok
    simp only [Bool.and_eq_true] at hok
    simp only [run] at hr
    obtain ⟨h1,h2⟩:=ih _ _ _ _ _ _ _ _ hr _ β (.code _ x _ _ hok.1 (.code _ y _ _ hok.2 hs)) (fun b c hm=>hB b c (by simpa using hm)) hβ hf
    exact ⟨h1,fun g w a b cs hro hbg hm hsz hI=>(h2 g w a b cs hro (hbg.sub fun _ h=>by simpa using h) hm hsz hI).step (.one stepR_seq)⟩
   |cd x y z =>
    cases c<;>simp only [okC,Bool.false_eq_true] at hok
    rename_i c' y' z'
    simp only [Bool.and_eq_true] at hok
    simp only [run] at hr
    split at hr
    ·rename_i t hx
     have hcond:∀ (g:Gh) (w:World) (a:Act),RT g w m a→a.eval c'=.bool t:=fun g w a hm=>by
      have:=R_okX hm hok.1.1
      rw [hx] at this
      exact R_bool this
     split at hr
     ·rename_i htt
      subst htt
      obtain ⟨h1,h2⟩:=ih _ _ _ _ _ _ _ _ hr _ β (.code y' y _ _ hok.1.2 hs) (fun b c hm=>hB b c (by simpa using hm)) hβ hf
      exact ⟨h1,fun g w a b cs hro hbg hm hsz hI=>(h2 g w a b cs hro (hbg.sub fun _ h=>by simpa using h) hm hsz hI).step (.one (by simpa using stepR_cond (hcond g w a hm)))⟩
     ·rename_i htt
      have:t=false:=by simpa using htt
      subst this
      obtain ⟨h1,h2⟩:=ih _ _ _ _ _ _ _ _ hr _ β (.code z' z _ _ hok.2 hs) (fun b c hm=>hB b c (by simpa using hm)) hβ hf
      exact ⟨h1,fun g w a b cs hro hbg hm hsz hI=>(h2 g w a b cs hro (hbg.sub fun _ h=>by simpa using h) hm hsz hI).step (.one (by simpa using stepR_cond (hcond g w a hm)))⟩
    ·simp at hr
   |bl id x =>
    cases c<;>simp only [okC,Bool.false_eq_true] at hok
    simp only [Bool.and_eq_true,beq_iff_eq] at hok
    obtain ⟨rfl,hok⟩:=hok
    simp only [run] at hr
    obtain ⟨h1,h2⟩:=ih _ _ _ _ _ _ _ _ hr _ β (.code _ x _ _ hok (.inB _ _ _ hs)) (fun b c hm=>hB b c (by simpa using hm)) hβ hf
    exact ⟨h1,fun g w a b cs hro hbg hm hsz hI=>(h2 g w a b cs hro (hbg.sub fun _ h=>by simpa using h) hm hsz hI).step (.one stepR_block)⟩
   |lp tr x =>
    cases c<;>simp only [okC,Bool.false_eq_true] at hok
    simp only [run] at hr
    obtain ⟨h1,h2⟩:=ih _ _ _ _ _ _ _ _ hr _ β (.code _ x _ _ hok (.inL _ x _ _ _ hok hs)) (fun b c hm=>by
     simp only [List.mem_cons,reduceCtorEq,false_or] at hm
     rcases hm with hm | hm
     ·cases tr
      ·simp at hm
      ·simp at hm;omega
     ·exact hB b c (by simp [hm])) hβ hf
    exact ⟨h1,fun g w a b cs hro hbg hm hsz hI=>(h2 g w a b cs hro (hbg.sub fun _ h=>by simpa using h) hm hsz hI).step (.one stepR_loop)⟩
   |xt id =>
    cases c<;>simp only [okC,Bool.false_eq_true] at hok
    simp only [beq_iff_eq] at hok
    subst hok
    simp only [run] at hr
    obtain ⟨x1,x2⟩:=exit_todo (P:=P) (cm:=cm) (nt:=nt) _ hs
    split at hr
    ·rename_i l' hl
     obtain ⟨k',hk',hs'⟩:=x1 _ hl
     obtain ⟨h1,h2⟩:=ih _ _ _ _ _ _ _ _ hr _ β hs' (fun b c hm=>hB b c (List.mem_cons_of_mem _ (exit_mem _ _ _ hl _ hm))) hβ hf
     exact ⟨h1,fun g w a b cs hro hbg hm hsz hI=>(h2 g w a b cs hro (hbg.sub fun _ h=>List.mem_cons_of_mem _ (exit_mem _ _ _ hl _ h)) hm hsz hI).step (.one (stepR_exit hk'))⟩
    ·rename_i hl
     simp only [Option.some.injEq,Prod.mk.injEq] at hr
     obtain ⟨rfl,rfl,rfl,rfl⟩:=hr
     exact ⟨⟨hβ,hf,fun _ _ h=>h⟩,fun g w a b cs _ _ hm hsz hI=>.here ⟨⟨k,rfl,x2 hl⟩,rfl⟩ hm hsz hI⟩
   |rt =>
    cases c<;>simp only [okC,Bool.false_eq_true] at hok
    simp only [run,Option.some.injEq,Prod.mk.injEq] at hr
    obtain ⟨rfl,rfl,rfl,rfl⟩:=hr
    exact ⟨⟨hβ,hf,fun _ _ h=>h⟩,fun g w a b cs _ _ hm hsz hI=>.here ⟨⟨k,rfl⟩,rfl⟩ hm hsz hI⟩
end
end Go.FI
namespace Go.FI
open Go.RowKit
variable [Sys]
theorem pures_iff {vs:List FV}:pures vs=true ↔ ∀ v ∈ vs,pure_ v=true:=by
 induction vs with
 |nil=>simp [pures]
 |cons v vs ih=>simp [pures,ih]
theorem pure_cells {v:FV} (h:pure_ v=true):pures v.cells=true:=by
 cases v<;>simp_all [FV.cells,pures,pure_]
theorem pures_flat {vs:List FV} (h:pures vs=true):pures (vs.flatMap FV.cells)=true:=by
 rw [pures_iff] at h ⊢
 intro c hc
 obtain ⟨v,hv,hcv⟩:=List.mem_flatMap.1 hc
 exact pures_iff.1 (pure_cells (h v hv)) c hcv
section
variable {g g2:Gh} {w w':World}
mutual
theorem R.pure (hz:∀ b,g.Z b→g2.Z b):∀ {v:FV} {x:Value},R g w v x→pure_ v=true→R g2 w v x
 |_,_,.undef v,_=>.undef v
 |_,_,.bool b,_=>.bool b
 |_,_,.int k n,_=>.int k n
 |_,_,.str s,_=>.str s
 |_,_,.agg cs vs hr,h=>.agg cs vs (RL.pure hz hr h)
 |_,_,.tup cs vs hr,h=>.tup cs vs (RL.pure hz hr h)
 |_,_,.lst0 e a cap he,_=>.lst0 e a cap he
 |_,_,.lst e xs b o es cap cs hne he hle hZ hes hx hr hc,h=>.lst e xs b o es cap cs hne he hle (hz b hZ) hes hx (RL.pure hz hr (pures_flat h)) hc
 |_,_,.eptr cs off b o vs hne hZ hr hc,h=>.eptr cs off b o vs hne (hz b hZ) (RL.pure hz hr h) hc
 |_,_,.nilp,_=>.nilp
 |_,_,.nilm,_=>.nilm
 |_,_,.fn f cs vs hlt hr,h=>.fn f cs vs hlt (RL.pure hz hr h)
 |_,_,.bf f cs vs hlt hr,h=>.bf f cs vs hlt (RL.pure hz hr h)
 |_,_,.nilf,_=>.nilf
 |_,_,.ifc t v x hr,h=>.ifc t v x (R.pure hz hr h)
 |_,_,.nili,_=>.nili
 |_,_,.ptr ..,h=>by simp [pure_] at h
 |_,_,.sref ..,h=>by simp [pure_] at h
 |_,_,.map ..,h=>by simp [pure_] at h
 |_,_,.yl ..,h=>by simp [pure_] at h
theorem RL.pure (hz:∀ b,g.Z b→g2.Z b):∀ {vs:List FV} {xs:List Value},RL g w vs xs→pures vs=true→RL g2 w vs xs
 |_,_,.nil,_=>.nil
 |_,_,.cons v x vs xs hr hs,h=>.cons v x vs xs (R.pure hz hr (by simp [pures] at h;exact h.1)) (RL.pure hz hs (by simp [pures] at h;exact h.2))
end
mutual
theorem R.flat:∀ {v:FV} {x:Value},R g w v x→flat v=true→R g2 w' v x
 |_,_,.undef v,_=>.undef v
 |_,_,.bool b,_=>.bool b
 |_,_,.int k n,_=>.int k n
 |_,_,.str s,_=>.str s
 |_,_,.agg cs vs hr,h=>.agg cs vs (RL.flat hr h)
 |_,_,.tup cs vs hr,h=>.tup cs vs (RL.flat hr h)
 |_,_,.nilp,_=>.nilp
 |_,_,.nilm,_=>.nilm
 |_,_,.nilf,_=>.nilf
 |_,_,.nili,_=>.nili
 |_,_,.ptr ..,h=>by simp [FI.flat] at h
 |_,_,.sref ..,h=>by simp [FI.flat] at h
 |_,_,.map ..,h=>by simp [FI.flat] at h
 |_,_,.yl ..,h=>by simp [FI.flat] at h
 |_,_,.lst0 ..,h=>by simp [FI.flat] at h
 |_,_,.lst ..,h=>by simp [FI.flat] at h
 |_,_,.eptr ..,h=>by simp [FI.flat] at h
 |_,_,.fn ..,h=>by simp [FI.flat] at h
 |_,_,.ifc ..,h=>by simp [FI.flat] at h
theorem RL.flat:∀ {vs:List FV} {xs:List Value},RL g w vs xs→flats vs=true→RL g2 w' vs xs
 |_,_,.nil,_=>.nil
 |_,_,.cons v x vs xs hr hs,h=>.cons v x vs xs (R.flat hr (by simp [flats] at h;exact h.1)) (RL.flat hs (by simp [flats] at h;exact h.2))
end
theorem RL.split {a b:List FV} {cs:List Value} (h:RL g w (a ++ b) cs):∃ c1 c2,cs=c1 ++ c2∧RL g w a c1∧RL g w b c2:=by
 induction a generalizing cs with
 |nil=>exact ⟨[],cs,rfl,.nil,h⟩
 |cons v a ih =>
  cases h with
  |cons _ x _ xs hr hs =>
   obtain ⟨c1,c2,rfl,h1,h2⟩:=ih hs
   exact ⟨x::c1,c2,rfl,.cons _ _ _ _ hr h1,h2⟩
variable {B:Nat} {w0:World} {h h':Heap}
structure FrzV (g g2:Gh) (w:World) (v r:FV):Prop where
 val:∀ x,R g w v x→R g2 w r x
 cells:∀ cs,RL g w v.cells cs→RL g2 w r.cells cs
 len:r.cells.length=v.cells.length
 ok:v.ok=true→r.ok=true
 one:v.one=true→r.one=true
structure FrzL (g g2:Gh) (w:World) (vs rs:List FV):Prop where
 val:∀ xs,RL g w vs xs→RL g2 w rs xs
 flat:∀ cs,RL g w (vs.flatMap FV.cells) cs→RL g2 w (rs.flatMap FV.cells) cs
 len:rs.length=vs.length
 one:vs.all FV.one=true→rs.all FV.one=true
 elems:∀ es,(∀ x ∈ vs,x.cells.length=es∧x.ok=true)→∀ x ∈ rs,x.cells.length=es∧x.ok=true
theorem FrzV.of_pure (hz:∀ b,g.Z b→g2.Z b) {v:FV} (h:pure_ v=true):FrzV g g2 w v v :=
 ⟨fun _ hr=>hr.pure hz h,fun _ hr=>hr.pure hz (pure_cells h),rfl,fun h=>h,fun h=>h⟩
theorem FrzV.of_one {v r:FV} (hv:v.cells=[v]) (hr:r.cells=[r]) (h1:r.one=true) (h2:r.ok=true) (h:∀ x,R g w v x→R g2 w r x):FrzV g g2 w v r :=
 ⟨h,fun cs hc=>by
  rw [hv] at hc;rw [hr]
  cases hc with | cons _ x _ xs h3 h4=>cases h4;exact .cons _ _ _ _ (h x h3) .nil,by rw [hv,hr];rfl,fun _=>h2,fun _=>h1⟩
def Rowish (h:Heap) (id es:Nat) (xs:List FV):Prop:=hget h id=some (.row es xs) ∨ hget h id=some (.fro es xs)
theorem elems_row {es id s off len:Nat} {xs:List FV} (he:elems h (.sref es id s off len)=some xs):∃ es2 ys,Rowish h id es2 ys∧ys.length=s∧off + len ≤ s∧xs=cut ys off (off + len):=by
 simp only [elems] at he
 split at he
 ·rename_i es2 ys hg
  obtain ⟨⟨e1,e2⟩,e3⟩:=chk_some he
  simp only [Option.some.injEq] at e3
  exact ⟨es2,ys,.inl hg,e1,e2,e3.symm⟩
 ·rename_i es2 ys hg
  obtain ⟨⟨e1,e2⟩,e3⟩:=chk_some he
  simp only [Option.some.injEq] at e3
  exact ⟨es2,ys,.inr hg,e1,e2,e3.symm⟩
 ·simp at he
theorem elemAt_row {id s i:Nat} {e:FV} (he:elemAt h id s i=some e):∃ es2 ys,Rowish h id es2 ys∧ys.length=s∧ys[i]? = some e:=by
 simp only [elemAt] at he
 split at he
 ·rename_i es2 ys hg
  obtain ⟨e1,e2⟩:=chk_some he
  exact ⟨es2,ys,.inl hg,e1,e2⟩
 ·rename_i es2 ys hg
  obtain ⟨e1,e2⟩:=chk_some he
  exact ⟨es2,ys,.inr hg,e1,e2⟩
 ·simp at he
theorem Rowish.ok (hI:Inv B w0 g h w) {id es:Nat} {ys:List FV} (hr:Rowish h id es ys) {l:Loc} (hk:g.κ id=some l):RowOk g w l es ys:=by
 rcases hr with hr | hr
 ·exact hI.obj id _ l hr hk
 ·exact (hI.obj id _ l hr hk).1
theorem Rowish.z (hI:Inv B w0 g h w) (hz:∀ b,g.Z b→g2.Z b) {id es:Nat} {ys:List FV} (hr:Rowish h id es ys) {l:Loc} (hk:g.κ id=some l) (ho:∀ es xs,hget h id=some (.row es xs)→∀ l b,g.κ id=some l→l.blk=some b→g2.Z b):∀ b,l.blk=some b→g2.Z b:=by
 intro b hb
 rcases hr with hr | hr
 ·exact ho _ _ hr l b hk hb
 ·exact hz b ((hI.obj id _ l hr hk).2 b hb)
theorem frz_ids (hI:Inv B w0 g h w) (hz:∀ b,g.Z b→g2.Z b) :
  ∀ n,(∀ v r,frz h n v=some r→(∀ i ∈ idV h n v,∀ es xs,hget h i=some (.row es xs)→∀ l b,g.κ i=some l→l.blk=some b→g2.Z b)→FrzV g g2 w v r) ∧
   (∀ vs rs,frzs h n vs=some rs→(∀ i ∈ idL h n vs,∀ es xs,hget h i=some (.row es xs)→∀ l b,g.κ i=some l→l.blk=some b→g2.Z b)→FrzL g g2 w vs rs):=by
 have nilL:FrzL g g2 w [] []:=⟨fun xs hx=>by cases hx;exact .nil,fun cs hc=>by cases hc;exact .nil,rfl,fun h=>h,fun _ _ x hx=>by simp at hx⟩
 intro n
 induction n with
 |zero =>
  constructor
  ·intro v r hf _
   simp only [frz] at hf
   split at hf
   ·rename_i hp
    simp only [Option.some.injEq] at hf;subst hf
    exact .of_pure hz hp
   ·simp at hf
  ·intro vs rs hf _
   cases vs with
   |nil=>simp only [frzs,Option.some.injEq] at hf;subst hf;exact nilL
   |cons v vs=>simp [frzs] at hf
 |succ n ih =>
  obtain ⟨ihV,ihL⟩:=ih
  constructor
  ·intro v r hf ho
   simp only [frz] at hf
   split at hf
   ·rename_i hp
    simp only [Option.some.injEq] at hf;subst hf
    exact .of_pure hz hp
   ·rename_i hnp
    simp only [idV,if_neg hnp] at ho
    split at hf
    ·rename_i cs
     obtain ⟨rs,k1,k2⟩:=bnd_some hf
     simp only [Option.some.injEq] at k2;subst k2
     have q:=ihL _ _ k1 ho
     exact ⟨fun x hx=>by cases hx with | agg _ vs hr=>exact .agg _ _ (q.val _ hr),fun c hc=>q.val _ hc,q.len,fun h=>by simp only [FV.ok] at h ⊢; exact q.one h,fun h=>by simp [FV.one] at h⟩
    ·rename_i cs
     obtain ⟨rs,k1,k2⟩:=bnd_some hf
     simp only [Option.some.injEq] at k2;subst k2
     have q:=ihL _ _ k1 ho
     exact ⟨fun x hx=>by cases hx with | tup _ vs hr=>exact .tup _ _ (q.val _ hr),fun c hc=>by
      simp only [FV.cells] at hc ⊢
      cases hc with | cons _ x _ xs h3 h4=>cases h4;exact .cons _ _ _ _ (by cases h3 with | tup _ vs hr=>exact .tup _ _ (q.val _ hr)) .nil,rfl,fun h=>by simp [FV.ok,FV.one] at h,fun h=>by simp [FV.one] at h⟩
    ·rename_i f cs
     obtain ⟨rs,k1,k2⟩:=bnd_some hf
     simp only [Option.some.injEq] at k2;subst k2
     have q:=ihL _ _ k1 ho
     exact .of_one rfl rfl rfl rfl fun x hx=>by cases hx with | fn _ _ vs hlt hr=>exact .fn _ _ _ hlt (q.val _ hr) | bf _ _ vs hlt hr=>exact .bf _ _ _ hlt (q.val _ hr)
    ·rename_i t u
     obtain ⟨rs,k1,k2⟩:=bnd_some hf
     simp only [Option.some.injEq] at k2;subst k2
     have q:=ihV _ _ k1 ho
     exact .of_one rfl rfl rfl rfl fun x hx=>by cases hx with | ifc _ _ x hr=>exact .ifc _ _ _ (q.val _ hr)
    ·obtain ⟨rs,k1,k2⟩:=bnd_some hf
     simp only [Option.some.injEq] at k2;subst k2
     exact ⟨fun x hx=>(by cases hx),fun cs hc=>(by cases hc with | cons _ _ _ _ h _=>cases h),rfl,fun h=>(by simp [FV.ok,FV.one] at h),fun h=>(by simp [FV.one] at h)⟩
    ·rename_i es id stamp off len
     obtain ⟨hes0,hf⟩:=chk_some hf
     obtain ⟨xs,k1,k2⟩:=bnd_some hf
     obtain ⟨rs,k3,k4⟩:=bnd_some k2
     simp only [Option.some.injEq] at k4;subst k4
     simp only [k1,List.mem_cons,forall_eq_or_imp] at ho
     have q:=ihL _ _ k3 ho.2
     refine .of_one rfl rfl rfl rfl fun x hx=>?_
     cases hx with | sref _ _ _ _ _ l aa cap hk hee hs hle ha hh =>
     obtain ⟨es2,ys,hg,e1,e2,rfl⟩:=elems_row k1
     have hrow:=hg.ok hI hk
     have hzb:=hg.z hI hz hk ho.1
     obtain ⟨q1,q2,q3⟩:=hh (by rw [hrow.hsize];exact e1.symm)
     have hcl:(cut ys off (off + len)).length=len:=by rw [cut_length _ _ _ (by omega)];omega
     have hrl:rs.length=len:=by rw [q.len,hcl]
     by_cases hz0:len=0
     ·subst hz0
      have:rs=[]:=List.eq_nil_of_length_eq_zero hrl
      subst this
      exact .lst0 _ _ _ (fun h=>by simp at h)
     ·obtain ⟨b,hb,rfl⟩:=q3 (by omega)
      obtain ⟨arr,t,r1,r2,r3,cs,r4,r5⟩:=hrow.hsome b hb
      have hels:∀ x ∈ cut ys off (off + len),x.cells.length=es2∧x.ok=true:=fun x hx=>by
       unfold cut at hx
       exact hrow.elems x (List.mem_of_mem_drop (List.mem_of_mem_take hx))
      have hflat:(cut ys off (off + len)).flatMap FV.cells=cut (ys.flatMap FV.cells) (off * es2) ((off + len) * es2):=by
       have hx'':∀ x ∈ ys.drop off,x.cells.length=es2:=fun x hx=>(hrow.elems x (List.mem_of_mem_drop hx)).1
       unfold cut
       rw [flat_drop (fun x hx=>(hrow.elems x hx).1),← Nat.mul_sub_right_distrib,flat_take hx'']
      have hfin:=R.lst (g:=g2) (w:=w) false rs b (off * l.es) es2 cap (cut cs (off * es2) ((off + len) * es2)) (fun e=>by rw [e] at hrl;simp at hrl;omega) (fun h=>by simp at h) (by omega) (hzb b hb) (by have:=hrow.hes;omega)
       (q.elems es2 hels) (q.flat _ (by rw [hflat];exact r4.cut _ _)) (fun j v hj=>by
        have:=r5 _ _ (cut_get _ _ _ _ _ hj)
        rw [hrow.hes]
        simp [World.cell?,r1,this])
      rw [hrl] at hfin
      exact hfin
    ·rename_i id s i off
     obtain ⟨e,k1,k2⟩:=bnd_some hf
     obtain ⟨rs,k3,k4⟩:=bnd_some k2
     obtain ⟨k5,k4⟩:=chk_some k4
     simp only [Option.some.injEq] at k4;subst k4
     simp only [k1,List.mem_cons,forall_eq_or_imp] at ho
     have q:=ihL _ _ k3 ho.2
     refine .of_one rfl rfl rfl rfl fun x hx=>?_
     cases hx with | ptr _ _ _ _ l a hk hs hh =>
     obtain ⟨es2,ys,hg,e1,e2⟩:=elemAt_row k1
     have hrow:=hg.ok hI hk
     have hzb:=hg.z hI hz hk ho.1
     obtain ⟨b,hb,rfl⟩:=hh (by rw [hrow.hsize];exact e1.symm)
     obtain ⟨arr,t,r1,r2,r3,cs,r4,r5⟩:=hrow.hsome b hb
     have hcut:=r4.cut (i * es2) (i * es2 + es2)
     rw [flat_cut (fun y hy=>(hrow.elems y hy).1) e2] at hcut
     refine R.eptr rs off b (i * l.es) _ (fun e=>k5 (by rw [e];rfl)) (hzb b hb) (q.val _ hcut) fun j v hj=>?_
     have:=r5 _ _ (cut_get _ _ _ _ _ hj)
     rw [hrow.hes]
     simp [World.cell?,r1,this]
    ·simp at hf
  ·intro vs rs hf ho
   cases vs with
   |nil=>simp only [frzs,Option.some.injEq] at hf;subst hf;exact nilL
   |cons v vs =>
    simp only [frzs] at hf
    simp only [idL,List.mem_append] at ho
    obtain ⟨r,k1,k2⟩:=bnd_some hf
    obtain ⟨rr,k3,k4⟩:=bnd_some k2
    simp only [Option.some.injEq] at k4;subst k4
    have q1:=ihV _ _ k1 fun i hi=>ho i (.inl hi)
    have q2:=ihL _ _ k3 fun i hi=>ho i (.inr hi)
    refine ⟨fun xs hx=>?_,fun cs hc=>?_,by simp [q2.len],fun h=>?_,fun es h x hx=>?_⟩
    ·cases hx with | cons _ x _ xs h3 h4=>exact .cons _ _ _ _ (q1.val _ h3) (q2.val _ h4)
    ·rw [List.flatMap_cons] at hc ⊢
     obtain ⟨c1,c2,rfl,h1,h2⟩:=hc.split
     exact (q1.cells _ h1).append (q2.flat _ h2)
    ·simp only [List.all_cons,Bool.and_eq_true] at h ⊢
     exact ⟨q1.one h.1,q2.one h.2⟩
    ·rcases List.mem_cons.1 hx with e | e
     ·subst e
      obtain ⟨h1,h2⟩:=h v (by simp)
      exact ⟨by rw [q1.len];exact h1,q1.ok h2⟩
     ·exact q2.elems es (fun y hy=>h y (by simp [hy])) x e
theorem frz_both (hI:Inv B w0 g h w) (hz:∀ b,g.Z b→g2.Z b) (ho:∀ i l b,g.κ i=some l→l.blk=some b→g2.Z b) :
  ∀ n,(∀ v r,frz h n v=some r→FrzV g g2 w v r)∧(∀ vs rs,frzs h n vs=some rs→FrzL g g2 w vs rs):=fun n =>
 ⟨fun v r hf=>(frz_ids hI hz n).1 v r hf fun i _ _ _ _ l b hk hb=>ho i l b hk hb,fun vs rs hf=>(frz_ids hI hz n).2 vs rs hf fun i _ _ _ _ l b hk hb=>ho i l b hk hb⟩
theorem R.uncells {v:FV} {cs:List Value} (hv:v.ok=true) (h:RL g w v.cells cs):∃ x,R g w v x:=by
 cases v with
 |agg vs=>exact ⟨_,.agg _ _ h⟩
 |undef=>exact ⟨.bool true,.undef _⟩
 |_=>cases h with | cons _ x _ _ hr _=>exact ⟨x,hr⟩
theorem RL.unflat:∀ {vs:List FV} {cs:List Value},(∀ v ∈ vs,v.ok=true)→RL g w (vs.flatMap FV.cells) cs→∃ xs,RL g w vs xs:=by
 intro vs
 induction vs with
 |nil=>intro cs _ _;exact ⟨[],.nil⟩
 |cons v vs ih =>
  intro cs ho h
  rw [List.flatMap_cons] at h
  obtain ⟨c1,c2,_,h1,h2⟩:=h.split
  obtain ⟨x,hx⟩:=R.uncells (ho v (by simp)) h1
  obtain ⟨xs,hxs⟩:=ih (fun u hu=>ho u (by simp [hu])) h2
  exact ⟨x::xs,.cons _ _ _ _ hx hxs⟩
theorem ids_known (hI:Inv B w0 g h w):∀ n,(∀ v x,R g w v x→∀ i ∈ idV h n v,∃ l,g.κ i=some l)∧(∀ vs xs,RL g w vs xs→∀ i ∈ idL h n vs,∃ l,g.κ i=some l):=by
 intro n
 induction n with
 |zero=>exact ⟨fun v x _ i hi=>by simp [idV] at hi,fun vs xs _ i hi=>by cases vs<;>simp [idL] at hi⟩
 |succ n ih =>
  obtain ⟨ihV,ihL⟩:=ih
  constructor
  ·intro v x hr i hi
   simp only [idV] at hi
   split at hi
   ·simp at hi
   ·split at hi
    ·cases hr with | agg _ vs hr=>exact ihL _ _ hr i hi
    ·cases hr with | tup _ vs hr=>exact ihL _ _ hr i hi
    ·cases hr with | fn _ _ vs _ hr=>exact ihL _ _ hr i hi | bf _ _ vs _ hr=>exact ihL _ _ hr i hi
    ·cases hr with | ifc _ _ x hr=>exact ihV _ _ hr i hi
    ·cases hr
    ·rename_i es id s off len _
     cases hr with | sref _ _ _ _ _ l aa cap hk hee hs hle ha hh =>
     rcases List.mem_cons.1 hi with e | hi
     ·exact ⟨l,by rw [e];exact hk⟩
     ·split at hi
      ·rename_i xs he
       obtain ⟨es2,ys,hg,e1,e2,rfl⟩:=elems_row he
       have hrow:=hg.ok hI hk
       cases hb:l.blk with
       |none =>
        obtain ⟨e3,_⟩:=hrow.hnone hb
        subst e3
        have:cut ([]:List FV) off (off + len)=[]:=by simp [cut]
        rw [this] at hi
        cases n<;>simp [idL] at hi
       |some b =>
        obtain ⟨arr,t,r1,r2,r3,cs,r4,r5⟩:=hrow.hsome b hb
        obtain ⟨us,hu⟩:=RL.unflat (fun x hx=>(hrow.elems x hx).2) r4
        exact ihL _ _ (hu.cut _ _) i hi
      ·simp at hi
    ·rename_i id s j off _
     cases hr with | ptr _ _ _ _ l a hk hs hh =>
     rcases List.mem_cons.1 hi with e | hi
     ·exact ⟨l,by rw [e];exact hk⟩
     ·split at hi
      ·rename_i e he
       obtain ⟨es2,ys,hg,e1,e2⟩:=elemAt_row he
       have hrow:=hg.ok hI hk
       cases hb:l.blk with
       |none =>
        obtain ⟨e3,_⟩:=hrow.hnone hb
        subst e3
        simp at e2
       |some b =>
        obtain ⟨arr,t,r1,r2,r3,cs,r4,r5⟩:=hrow.hsome b hb
        have hcut:=r4.cut (j * es2) (j * es2 + es2)
        rw [flat_cut (fun y hy=>(hrow.elems y hy).1) e2] at hcut
        exact ihL _ _ hcut i hi
      ·simp at hi
    ·simp at hi
  ·intro vs xs hr i hi
   cases vs with
   |nil=>simp [idL] at hi
   |cons v vs =>
    cases hr with | cons _ x _ xs h1 h2 =>
    simp only [idL,List.mem_append] at hi
    rcases hi with hi | hi
    ·exact ihV _ _ h1 i hi
    ·exact ihL _ _ h2 i hi
theorem elemAt_sub (hs:Sub h h') {id s i:Nat} {e:FV} (he:elemAt h id s i=some e):elemAt h' id s i=some e:=by
 unfold elemAt at he ⊢
 split at he
 iterate 2
  ·rename_i hg;rw [hs _ _ hg];exact he
 ·simp at he
theorem frz_sub (hs:Sub h h'):∀ n,(∀ v r,frz h n v=some r→frz h' n v=some r)∧(∀ vs rs,frzs h n vs=some rs→frzs h' n vs=some rs):=by
 intro n
 induction n with
 |zero =>
  exact ⟨fun v r h=>by simpa only [frz] using h,fun vs rs h=>by cases vs<;>simpa only [frzs] using h⟩
 |succ n ih =>
  obtain ⟨ihV,ihL⟩:=ih
  constructor
  ·intro v r hf
   simp only [frz] at hf ⊢
   split at hf
   ·rename_i hp;rw [if_pos hp];exact hf
   ·rename_i hp
    rw [if_neg hp]
    split at hf
    ·obtain ⟨rs,k1,k2⟩:=bnd_some hf
     simp only [ihL _ _ k1];exact k2
    ·obtain ⟨rs,k1,k2⟩:=bnd_some hf
     simp only [ihL _ _ k1];exact k2
    ·obtain ⟨rs,k1,k2⟩:=bnd_some hf
     simp only [ihL _ _ k1];exact k2
    ·obtain ⟨rs,k1,k2⟩:=bnd_some hf
     simp only [ihV _ _ k1];exact k2
    ·obtain ⟨rs,k1,k2⟩:=bnd_some hf
     simp only [ihV _ _ k1];exact k2
    ·obtain ⟨hes0,hf⟩:=chk_some hf
     obtain ⟨xs,k1,k2⟩:=bnd_some hf
     obtain ⟨rs,k3,k4⟩:=bnd_some k2
     rw [chk,if_pos hes0]
     simp only [elems_sub hs k1,bnd,ihL _ _ k3];exact k4
    ·obtain ⟨xs,k1,k2⟩:=bnd_some hf
     obtain ⟨rs,k3,k4⟩:=bnd_some k2
     simp only [elemAt_sub hs k1,bnd,ihL _ _ k3];exact k4
    ·simp at hf
  ·intro vs rs hf
   cases vs with
   |nil=>simpa only [frzs] using hf
   |cons v vs =>
    simp only [frzs] at hf ⊢
    obtain ⟨r,k1,k2⟩:=bnd_some hf
    obtain ⟨rr,k3,k4⟩:=bnd_some k2
    simp only [ihV _ _ k1,bnd,ihL _ _ k3];exact k4
def ZF (g:Gh) (h:Heap) (is:List Nat):Nat→Prop:=fun b=>g.Z b ∨ ∃ i ∈ is,∃ es xs,hget h i=some (.row es xs)∧∃ l,g.κ i=some l∧l.blk=some b
theorem froze1 (hI:Inv B w0 g h w) {i es:Nat} {xs:List FV} (hg:hget h i=some (.row es xs)) :
  Inv B w0 ⟨g.κ,fun b=>g.Z b ∨ ∃ l,g.κ i=some l∧l.blk=some b⟩ (hset h i (.fro es xs)) w∧GLe g ⟨g.κ,fun b=>g.Z b ∨ ∃ l,g.κ i=some l∧l.blk=some b⟩ w w:=by
 have hle:GLe g ⟨g.κ,fun b=>g.Z b ∨ ∃ l,g.κ i=some l∧l.blk=some b⟩ w w:=⟨fun b h=>.inl h,fun _ _=>rfl,KLe.refl _⟩
 refine ⟨⟨fun j l hl=>?_,fun j o l ho hl=>?_,hI.inj,fun j l b hl hb=>?_,fun b hb=>?_,hI.below,hI.size⟩,hle⟩
 ·rw [hget_hset hg]
  split
  ·exact ⟨_,rfl⟩
  ·exact hI.dom j l hl
 ·rw [hget_hset hg] at ho
  split at ho
  ·rename_i e
   cases ho
   subst e
   exact ⟨RowOk.mono hle (fun _ _=>rfl) (hI.obj _ _ l hg hl),fun b hb=>.inr ⟨l,hl,hb⟩⟩
  ·exact (hI.obj j o l ho hl).mono hle fun _ _=>rfl
 ·obtain ⟨h1,h2,h3⟩:=hI.own j l b hl hb
  refine ⟨h1,fun hf hz=>?_,h3⟩
  rw [hget_hset hg] at hf
  split at hf
  ·cases hf
  ·rename_i e
   rcases hz with hz | ⟨l2,k1,k2⟩
   ·exact h2 hf hz
   ·exact e (hI.inj j i l l2 b hl k1 hb k2)
 ·rcases hb with hb | ⟨l,k1,k2⟩
  ·exact hI.zlt b hb
  ·exact (hI.own i l b k1 k2).2.2
theorem Inv.zcongr {Z:Nat→Prop} {κ:Nat→Option Loc} {Z':Nat→Prop} (hI:Inv B w0 ⟨κ,Z⟩ h w) (hz:∀ b,Z b ↔ Z' b):Inv B w0 ⟨κ,Z'⟩ h w:=by
 have:Z=Z':=funext fun b=>propext (hz b)
 subst this
 exact hI
theorem froze_inv:∀ (is:List Nat) (g:Gh) (h:Heap),Inv B w0 g h w→Inv B w0 ⟨g.κ,ZF g h is⟩ (froze h is) w:=by
 intro is
 induction is with
 |nil =>
  intro g h hI
  exact Inv.zcongr (κ:=g.κ) (Z:=g.Z) hI fun b=>⟨.inl,fun hb=>by
   rcases hb with hb | ⟨i,hi,_⟩
   ·exact hb
   ·simp at hi⟩
 |cons i is ih =>
  intro g h hI
  simp only [froze]
  split
  ·rename_i es xs hg
   obtain ⟨h1,h2⟩:=froze1 hI hg
   refine (ih _ _ h1).zcongr fun b=>⟨fun hb=>?_,fun hb=>?_⟩
   ·rcases hb with (hb | ⟨l,k1,k2⟩) | ⟨j,hj,es2,xs2,k1,l,k2,k3⟩
    ·exact .inl hb
    ·exact .inr ⟨i,by simp,es,xs,hg,l,k1,k2⟩
    ·rw [hget_hset hg] at k1
     split at k1
     ·cases k1
     ·exact .inr ⟨j,by simp [hj],es2,xs2,k1,l,k2,k3⟩
   ·rcases hb with hb | ⟨j,hj,es2,xs2,k1,l,k2,k3⟩
    ·exact .inl (.inl hb)
    ·by_cases e:j=i
     ·subst e
      exact .inl (.inr ⟨l,k2,k3⟩)
     ·rcases List.mem_cons.1 hj with e' | hj
      ·exact absurd e' e
      ·exact .inr ⟨j,hj,es2,xs2,by rw [hget_hset hg,if_neg e];exact k1,l,k2,k3⟩
  ·rename_i hn
   refine (ih _ _ hI).zcongr fun b=>⟨fun hb=>?_,fun hb=>?_⟩
   ·rcases hb with hb | ⟨j,hj,r⟩
    ·exact .inl hb
    ·exact .inr ⟨j,by simp [hj],r⟩
   ·rcases hb with hb | ⟨j,hj,es2,xs2,k1,r⟩
    ·exact .inl hb
    ·rcases List.mem_cons.1 hj with e | hj
     ·subst e;exact absurd k1 (hn es2 xs2)
     ·exact .inr ⟨j,hj,es2,xs2,k1,r⟩
theorem froze_get {j:Nat}:∀ (is:List Nat) (h:Heap),j ∉ is→hget (froze h is) j=hget h j:=by
 intro is
 induction is with
 |nil=>intro h _;rfl
 |cons i is ih =>
  intro h hj
  simp only [List.mem_cons,not_or] at hj
  simp only [froze]
  split
  ·rename_i hg
   rw [ih _ hj.2,hget_hset hg,if_neg hj.1]
  ·exact ih _ hj.2
theorem froze_none {j:Nat}:∀ (is:List Nat) (h:Heap),hget h j=none→hget (froze h is) j=none:=by
 intro is
 induction is with
 |nil=>intro h hj;exact hj
 |cons i is ih =>
  intro h hj
  simp only [froze]
  split
  ·rename_i hg
   refine ih _ ?_
   rw [hget_hset hg]
   split
   ·rename_i e;subst e;rw [hj] at hg;cases hg
   ·exact hj
  ·exact ih _ hj
end
end Go.FI
namespace Go.FI
open Go.RowKit
variable [Sys]
def okRes (P:Program) (nt:Nat):List ResultVar→List RV→Bool
 |[],[]=>true
 |.tmp t::a,.t n::b=>t == n && okRes P nt a b
 |.cell t ty::a,.cell n ag::b=>t == n && okAg P ty ag && okRes P nt a b
 |_,_=>false
def okFn (P:Program) (cm:Nat→Nat) (rdO:Nat→Option Rd) (f:Nat) (d:Fn):Bool :=
 match P.funcs[f]? with
 |some fn=>match fn.body with
  |some c => okC P cm rdO fn.ntmps c d.body && decide (d.np ≤ fn.ntmps) && okRes P fn.ntmps fn.results.toList d.res && !(fn.name == "runtime.NumGoroutine")
  |none=>false
 |none=>false
def cmOf (T:Tab) (f:Nat):Nat :=
 match tget T f with
 |some (.fn d)=>match d.mode with
  |.iso=>0
  |.isf=>1
  |.shr=>2
  |.isc=>2
 |some (.ext _)=>1
 |some (.ct _)=>0
 |some (.mr _)=>0
 |some (.rd _)=>2
 |none=>2
def rdOf (T:Tab) (f:Nat):Option Rd :=
 match tget T f with
 |some (.rd d)=>some d
 |_=>none
def zone (Z:Nat→Prop) (w w':World):Nat→Prop:=fun b=>Z b ∨ w.heap.size ≤ b∧b < w'.heap.size
def IsoCall (P:Program) (f:Nat) (args:List FV) (v:FV):Prop:=∀ (Z:Nat→Prop) (w:World) (xs:List Value),(∀ b,Z b→b < w.heap.size)→GlOk ⟨fun _=>none,Z⟩ w→RL ⟨fun _=>none,Z⟩ w args xs →
 Calls P f xs.toArray w fun e w'=>∃ x,e=.returned x∧Below w.heap.size w w'∧R ⟨fun _=>none,zone Z w w'⟩ w' v x
theorem frz_pan {h:Heap} {n:Nat} {v:FV}:frz h (n + 1) (.pan v)=bnd (frz h n v) fun r=>some (.pan r):=by
 simp [frz,pure_]
def IsoCallP (P:Program) (f:Nat) (args:List FV) (v:FV):Prop:=∀ (Z:Nat→Prop) (w:World) (xs:List Value),(∀ b,Z b→b < w.heap.size)→GlOk ⟨fun _=>none,Z⟩ w→RL ⟨fun _=>none,Z⟩ w args xs →
 Calls P f xs.toArray w fun e w'=>Below w.heap.size w w'∧EndR ⟨fun _=>none,zone Z w w'⟩ w' v e
theorem IsoCall.pan {P:Program} {f:Nat} {args:List FV} {v:FV} (h:IsoCall P f args v):IsoCallP P f args v:=fun Z w xs hz hg hx=>(h Z w xs hz hg hx).mono fun _ _ ⟨x,h1,h2,h3⟩=>⟨h2,.inl ⟨x,h1,h3⟩⟩
theorem IsoCallP.ret {P:Program} {f:Nat} {args:List FV} {v:FV} (h:IsoCallP P f args v) (hp:isPan v=false):IsoCall P f args v:=fun Z w xs hz hg hx=>(h Z w xs hz hg hx).mono fun e w' ⟨h1,h2⟩=>by
 rcases h2 with ⟨x,e1,e2⟩ | ⟨u,x,rfl,_⟩
 ·exact ⟨x,e1,h1,e2⟩
 ·simp [isPan] at hp
def ExtOk (P:Program) (f:Nat) (g:List FV→Option FV):Prop:=entered P f=true∧∀ args v,g args=some v→IsoCall P f args v
def okCt (P:Program) (cm:Nat→Nat) (rdO:Nat→Option Rd) (f:Nat) (c:Ct):Bool :=
 match P.funcs[f]? with
 |some fn=>match fn.body with
  |some (.seq (.region _ pre false) (.seq (.region _ ops false) rest)) => okGs P pre fn.ntmps pre.toList c.pre && okC P cm rdO fn.ntmps rest c.rest && decide (c.np ≤ fn.ntmps) && okRes P fn.ntmps fn.results.toList c.res && !(fn.name == "runtime.NumGoroutine") && decide (c.dst < fn.ntmps) && decide (c.g < RB) &&
    (match ops.toList with
     |[⟨some d,.makeFunc (.func g) first caps,_,_,_,none⟩,⟨none,.defer ⟨.value (.tmp d'),as,_⟩,_,_,_,none⟩]=>d == c.dst && d' == c.dst && g == c.g && first.isEmpty && as.isEmpty && okXs caps.toList (c.ct.map .t)
     |_=>false) &&
    (match P.funcs[c.g]? with
     |some gn=>(match gn.body with
      |some (.seq (.region _ ops2 false) hb) => okC P cm rdO gn.ntmps hb c.hb && decide (c.ct.length ≤ gn.ntmps) && gn.results.isEmpty && !(gn.name == "runtime.NumGoroutine") && decide (c.ht < gn.ntmps) &&
       (match ops2.toList with
        |[⟨some t,.call ⟨.builtin .recover,as,_⟩,_,_,_,none⟩]=>t == c.ht && as.isEmpty
        |_=>false)
      |_=>false)
     |none=>false)
  |_=>false
 |none=>false
def okWalk (P:Program) (cm:Nat→Nat) (rdO:Nat→Option Rd) (nt:Nat) (d:Mr):Code→Bool
 |.seq (.seq (.region _ rops false) (.block b0 (.loop (.seq (.region _ nops false) (.seq (.cond (.tmp t23) .skip (.exit b0')) (.block _ (.seq (.region _ eops false) body))))))) post =>
   b0 == b0' && okC P cm rdO nt body d.body && okC P cm rdO nt post d.post &&
   (match rops.toList with
    |[⟨some t20,.move x,_,_,_,none⟩,⟨some t21,.range mt (.tmp t20'),_,_,_,none⟩]=>okX x (.t d.mp) && t20 == t20' && t21 == d.it && !d.keep0.contains t20 && decide (t20 < nt) && decide (t21 < nt) && isDesc P mt (fun q=>match q with | .map _ _=>true | _=>false)
    |_=>false) &&
   (match nops.toList with
    |[⟨some t22,.next (.tmp t21') false,_,_,_,none⟩,⟨some t23',.extract (.tmp t22') 0,_,_,_,none⟩]=>t21' == d.it && t22 == t22' && t23 == t23' && !d.keep0.contains t22 && !d.keep0.contains t23 && decide (t22 < nt) && decide (t23 < nt)
    |_=>false) &&
   (match eops.toList with
    |⟨some t24,.entry (.tmp t21''),_,_,_,none⟩::rest=>t24 == d.d && decide (t24 < nt) && t21'' == d.it && okGs P eops nt rest d.ops
    |_=>false)
 |_=>false
def okMrC (P:Program) (cm:Nat→Nat) (rdO:Nat→Option Rd) (nt:Nat) (d:Mr):List C→Code→Bool
 |p::ps,.seq a b=>okC P cm rdO nt a p && okMrC P cm rdO nt d ps b
 |[],c=>okWalk P cm rdO nt d c
 |_::_,_=>false
def okMr (P:Program) (cm:Nat→Nat) (rdO:Nat→Option Rd) (f:Nat) (d:Mr):Bool :=
 match P.funcs[f]? with
 |some fn=>match fn.body with
  |some c => okMrC P cm rdO fn.ntmps d d.pre c && decide (d.np ≤ fn.ntmps) && okRes P fn.ntmps fn.results.toList d.res && !(fn.name == "runtime.NumGoroutine")
  |none=>false
 |none=>false
structure TabOk (P:Program) (T:Tab):Prop where
 ct:∀ f c,tget T f=some (.ct c)→okCt P (cmOf T) (rdOf T) f c=true
 fn:∀ f d,tget T f=some (.fn d)→okFn P (cmOf T) (rdOf T) f d=true
 mr:∀ f d,tget T f=some (.mr d)→okMr P (cmOf T) (rdOf T) f d=true
 ext:∀ f g,tget T f=some (.ext g)→ExtOk P f g
 mix:P.follows .mixedOrders=true
 rk:∀ f r ct,Sys.rk f r ct ↔ RkOf P (cmOf T) (rdOf T) f r ct
theorem tget_any {i f:Nat} {x y:Def} {r:Tab} (h:tget ((i,x)::r) f=some y):(i=f∧x=y) ∨ tget r f=some y:=by
 simp only [tget] at h
 split at h
 ·rename_i e;cases h;exact .inl ⟨e,rfl⟩
 ·exact .inr h
section
variable {P:Program} {B:Nat} {w0:World} {g g':Gh} {w w':World} {h h':Heap} {m:Tm} {a:Act} {nt:Nat} {cm:Nat→Nat}
theorem gt_params:∀ (args:List FV) (i t:Nat),gt (params i args) t=if i ≤ t then args.getD (t - i) .undef else .undef:=by
 intro args
 induction args with
 |nil=>intro i t;simp [params,gt]
 |cons v args ih =>
  intro i t
  simp only [params,gt]
  by_cases e:i=t
  ·subst e;simp
  ·rw [if_neg e,ih]
   by_cases h1:i ≤ t
   ·have h2:i + 1 ≤ t:=by omega
    rw [if_pos h1,if_pos h2]
    obtain ⟨k,hk⟩:∃ k,t - i=k + 1:=⟨t - i - 1,by omega⟩
    rw [hk,show t - (i + 1)=k by omega]
    simp
   ·rw [if_neg h1,if_neg (by omega)]
theorem RT_params {args:List FV} {xs:List Value} (hr:RL g w args xs) (hgl:GlOk g w) (n:Nat):RT g w (params 0 args) ⟨xs.toArray ++ Array.replicate n undef,[]⟩:=by
 refine ⟨?_,hgl⟩
 intro t
 rw [gt_params]
 simp only [Nat.zero_le,if_true,Nat.sub_zero]
 by_cases ht:t < args.length
 ·obtain ⟨x,hx,hR⟩:=hr.get t args[t] (by simp [ht])
  have hlt:t < xs.length:=by rw [← hr.length];exact ht
  have:xs[t]=x:=by simpa [hlt] using hx
  subst this
  simpa [Array.getD,hlt,ht,Array.getElem_append,show t < xs.length + n by omega] using hR
 ·have:args.getD t .undef=.undef:=by simp [List.getElem?_eq_none (Nat.le_of_not_lt ht)]
  rw [this];exact .undef _
theorem readRes_sound (hI:Inv B w0 g h w) (hm:RT g w m a):∀ (rs:List ResultVar) (vs:List RV) (out:List FV),okRes P nt rs vs=true→readRes m h vs=some out →
  ∃ xs,(rs.mapM fun (r:ResultVar)=>(match r with | .tmp t=>pure (a.tmps.getD t undef) | .cell q t=>do loadVar t (← asAddr (a.tmps.getD q undef)):Sem Value)).run P w=.ok xs w∧RL g w out xs:=by
 intro rs
 induction rs with
 |nil =>
  intro vs out hok hr
  cases vs with
  |nil=>simp only [readRes,Option.some.injEq] at hr;subst hr;exact ⟨[],rfl,.nil⟩
  |cons=>simp [okRes] at hok
 |cons r rs ih =>
  intro vs out hok hr
  cases vs with
  |nil=>cases r<;>simp [okRes] at hok
  |cons q vs =>
   cases r with
   |tmp t =>
    cases q with
    |cell=>simp [okRes] at hok
    |t n =>
     simp only [okRes,Bool.and_eq_true,beq_iff_eq] at hok
     obtain ⟨rfl,hok⟩:=hok
     simp only [readRes] at hr
     obtain ⟨o2,k1,k2⟩:=bnd_some hr
     simp only [Option.some.injEq] at k2;subst k2
     obtain ⟨xs,h1,h2⟩:=ih vs o2 hok k1
     refine ⟨a.tmps.getD t undef::xs,?_,.cons _ _ _ _ (hm t) h2⟩
     rw [List.mapM_cons]
     simp only [Sem.run_bind,Sem.run_pure,Result.andThen_ok,h1]
   |cell t ty =>
    cases q with
    |t=>simp [okRes] at hok
    |cell n ag =>
     simp only [okRes,Bool.and_eq_true,beq_iff_eq] at hok
     obtain ⟨⟨rfl,hag⟩,hok⟩:=hok
     simp only [readRes] at hr
     obtain ⟨v,k0,hr⟩:=bnd_some hr
     obtain ⟨o2,k1,k2⟩:=bnd_some hr
     simp only [Option.some.injEq] at k2;subst k2
     obtain ⟨xs,h1,h2⟩:=ih vs o2 hok k1
     obtain ⟨ad,z,e1,e2,e3⟩:=loadv_sound hI (hm t) hag k0
     refine ⟨z::xs,?_,.cons _ _ _ _ e3 h2⟩
     rw [List.mapM_cons]
     have e4:(asAddr (.pointer (some ad))).run P w=.ok ad w:=rfl
     simp only [e1,Sem.run_bind,Sem.run_pure,Result.andThen_ok,h1,e4,e2]
theorem results_sound (hI:Inv B w0 g h w) (hm:RT g w m a) {fn:Func} {vs:List RV} {out:List FV} (hok:okRes P nt fn.results.toList vs=true) (hr:readRes m h vs=some out) :
  ∃ x,(results fn a.tmps).run P w=.ok x w∧R g w (result out) x:=by
 obtain ⟨xs,h1,h2⟩:=readRes_sound hI hm _ _ _ hok hr
 have h3:(fn.results.mapM fun (r:ResultVar)=>(match r with | .tmp t=>pure (a.tmps.getD t undef) | .cell q t=>do loadVar t (← asAddr (a.tmps.getD q undef)):Sem Value)).run P w=.ok xs.toArray w:=by
  rw [Array.mapM_eq_mapM_toList]
  simp only [Sem.run_map,h1]
  rfl
 have h4:results fn a.tmps=(do
   let vs ← fn.results.mapM fun (r:ResultVar)=>(match r with | .tmp t=>pure (a.tmps.getD t undef) | .cell q t=>do loadVar t (← asAddr (a.tmps.getD q undef)):Sem Value)
   pure (if h:vs.size=1 then vs[0] else .tuple vs)):=rfl
 rw [h4]
 simp only [Sem.run_bind,h3,Result.andThen_ok,Sem.run_pure]
 refine ⟨_,rfl,?_⟩
 cases h2 with
 |nil=>exact .tup _ _ .nil
 |cons v x vs xs hr1 hs =>
  cases hs with
  |nil=>exact hr1
  |cons v2 x2 vs2 xs2 hr2 hs2 =>
   have:¬ (x::x2::xs2).toArray.size=1:=by simp
   rw [dif_neg this]
   exact .tup _ _ (.cons _ _ _ _ hr1 (.cons _ _ _ _ hr2 hs2))
mutual
theorem R.unmark {r:Nat} {o:Go.Obj} (hr:w.heap[r]? = some (.deferred (some []))):∀ {v:FV} {x:Value},R g w v x→R ⟨g.κ,fun b=>g.Z b∧b ≠ r⟩ (w.putObj r o) v x
 |_,_,.undef v=>.undef v
 |_,_,.bool b=>.bool b
 |_,_,.int k n=>.int k n
 |_,_,.str s=>.str s
 |_,_,.agg cs vs h=>.agg cs vs (RL.unmark hr h)
 |_,_,.tup cs vs h=>.tup cs vs (RL.unmark hr h)
 |_,_,.lst0 e a cap he=>.lst0 e a cap he
 |_,_,.lst e xs b o es cap cs hne he hle hZ hes hx h hc=>by
  have hb:b ≠ r:=by
   intro e
   have hlen:=h.length
   rw [flat_length (fun x hx'=>(hx x hx').1)] at hlen
   have hpos:0 < cs.length:=by
    rw [← hlen]
    exact Nat.mul_pos (List.length_pos_iff.2 hne) hes
   have:=hc 0 cs[0] (by simp [hpos])
   rw [e] at this
   simp [World.cell?,hr] at this
  exact .lst e xs b o es cap cs hne he hle ⟨hZ,hb⟩ hes hx (RL.unmark hr h) fun j v hj=>by
   rw [cell_of_heap (w:=w) (a:=⟨b,o + j,none⟩) (World.putObj_heap_other hb)];exact hc j v hj
 |_,_,.eptr cs off b o vs hne hZ h hc=>by
  have hb:b ≠ r:=by
   intro e
   have hlen:=h.length
   have hpos:0 < vs.length:=by
    rw [← hlen]
    exact List.length_pos_iff.2 hne
   have:=hc 0 vs[0] (by simp [hpos])
   rw [e] at this
   simp [World.cell?,hr] at this
  exact .eptr cs off b o vs hne ⟨hZ,hb⟩ (RL.unmark hr h) fun j v hj=>by
   rw [cell_of_heap (w:=w) (a:=⟨b,o + j,none⟩) (World.putObj_heap_other hb)];exact hc j v hj
 |_,_,.ptr id s i off l a hk hs hp=>.ptr id s i off l a hk hs hp
 |_,_,.nilp=>.nilp
 |_,_,.sref es id s off len l a cap hk he hs hle ha hp=>.sref es id s off len l a cap hk he hs hle ha hp
 |_,_,.map id b l hk hm hb=>.map id b l hk hm hb
 |_,_,.nilm=>.nilm
 |_,_,.fn f cs vs hlt h=>.fn f cs vs hlt (RL.unmark hr h)
 |_,_,.bf f cs vs hlt h=>.bf f cs vs hlt (RL.unmark hr h)
 |_,_,.nilf=>.nilf
 |_,_,.ifc t v x h=>.ifc t v x (R.unmark hr h)
 |_,_,.nili=>.nili
 |_,_,.yl f id cs l b q ct hge hk hm hb hq hf hc=>.yl f id cs l b q ct hge hk hm hb hq hf (RL.unmark hr hc)
theorem RL.unmark {r:Nat} {o:Go.Obj} (hr:w.heap[r]? = some (.deferred (some []))):∀ {vs:List FV} {xs:List Value},RL g w vs xs→RL ⟨g.κ,fun b=>g.Z b∧b ≠ r⟩ (w.putObj r o) vs xs
 |_,_,.nil=>.nil
 |_,_,.cons v x vs xs h hs=>.cons v x vs xs (R.unmark hr h) (RL.unmark hr hs)
end
theorem EnOk.unmark {r:Nat} {o:Go.Obj} (hr:w.heap[r]? = some (.deferred (some []))) {en:List (FV × FV)} {es:List MapEntry} (he:EnOk g w en es):EnOk ⟨g.κ,fun b=>g.Z b∧b ≠ r⟩ (w.putObj r o) en es:=by
 induction he with
 |nil=>exact .nil
 |cons k v e en es hk hv hs ih=>exact .cons k v e en es (hk.unmark hr) (hv.unmark hr) ih
theorem RT.unmark {r:Nat} {o:Go.Obj} (hr:w.heap[r]? = some (.deferred (some []))) (hm:RT g w m a):RT ⟨g.κ,fun b=>g.Z b∧b ≠ r⟩ (w.putObj r o) m a :=
 ⟨fun t=>(hm t).unmark hr,fun k cs hk=>(hm.gl k cs hk).unmark hr⟩
theorem Inv.unmark {r:Nat} {o:Go.Obj} (hI:Inv B w0 g h w) (hr:w.heap[r]? = some (.deferred (some []))) (hz:g.Z r) (hB:B ≤ r):Inv B w0 ⟨g.κ,fun b=>g.Z b∧b ≠ r⟩ h (w.putObj r o):=by
 have hoth:∀ i l b,g.κ i=some l→l.blk=some b→(w.putObj r o).heap[b]? = w.heap[b]? := fun i l b hl hb=>World.putObj_heap_other fun e=>by
  subst e
  obtain ⟨o,ho⟩:=hI.dom i l hl
  have hob:=hI.obj i o l ho hl
  cases o with
  |fro es xs =>
   obtain ⟨arr,t,q1,_⟩:=hob.1.hsome _ hb
   rw [hr] at q1;cases q1
  |fmp en =>
   obtain ⟨bb,es,clock,q1,q2,_⟩:=hob.1.hsome
   rw [hb] at q1;cases q1
   rw [hr] at q2;cases q2
  |mit =>
   obtain ⟨bb,m,s,sn,k,q1,_,q2⟩:=(hob:MitOk g w l).hsome
   rw [hb] at q1;cases q1
   rw [hr] at q2;cases q2
  |_=>exact (hI.own i l _ hl hb).2.1 (by rw [ho];rfl) hz
 refine ⟨hI.dom,fun i q l hq hl=>?_,hI.inj,fun i l b hl hb=>?_,fun b hb=>?_,?_,?_⟩
 ·have:=hI.obj i q l hq hl
  cases q with
  |row es xs =>
   obtain ⟨k1,k2,k3,k4,k5,k6,k7⟩:=(this:RowOk g w l es xs)
   refine ⟨k1,k2,k3,k4,k5,k6,fun bb hb=>?_⟩
   obtain ⟨arr,t,q1,q2,q3,cs,q4,q5⟩:=k7 bb hb
   exact ⟨arr,t,by rw [hoth i l bb hl hb];exact q1,q2,q3,cs,q4.unmark hr,q5⟩
  |fro es xs =>
   obtain ⟨⟨k1,k2,k3,k4,k5,k6,k7⟩,k8⟩:=(this:RowOk g w l es xs∧∀ b,l.blk=some b→g.Z b)
   refine ⟨⟨k1,k2,k3,k4,k5,k6,fun bb hb=>?_⟩,fun bb hb=>⟨k8 bb hb,fun e=>?_⟩⟩
   ·obtain ⟨arr,t,q1,q2,q3,cs,q4,q5⟩:=k7 bb hb
    exact ⟨arr,t,by rw [hoth i l bb hl hb];exact q1,q2,q3,cs,q4.unmark hr,q5⟩
   ·subst e
    obtain ⟨arr,t,q1,_⟩:=k7 bb hb
    rw [hr] at q1;cases q1
  |mp en =>
   obtain ⟨k1,k1',bb,es,clock,q1,q2,q3,q4⟩:=(this:MapOk g w l en)
   exact ⟨k1,k1',bb,es,clock,q1,by rw [hoth i l bb hl q1];exact q2,q3.unmark hr,q4⟩
  |lp st jp =>
   obtain ⟨k1,bb,rr,q1,q2,q3⟩:=(this:LpOk w l st jp)
   exact ⟨k1,bb,rr,q1,q2,by rw [hoth i l bb hl q1];exact q3⟩
  |fmp en =>
   obtain ⟨⟨k1,k1',bb,es,clock,q1,q2,q3,q4⟩,k2⟩:=(this:MapOk g w l en∧∀ b,l.blk=some b→g.Z b)
   refine ⟨⟨k1,k1',bb,es,clock,q1,by rw [hoth i l bb hl q1];exact q2,q3.unmark hr,q4⟩,fun b2 hb2=>⟨k2 b2 hb2,fun e=>?_⟩⟩
   subst e
   rw [q1] at hb2;cases hb2
   rw [hr] at q2;cases q2
  |mit =>
   obtain ⟨k1,k2,k3,bb,m,s,sn,k,q1,qz,q2⟩:=(this:MitOk g w l)
   have hne:bb ≠ r:=fun e=>by subst e;rw [hr] at q2;cases q2
   exact ⟨k1,k2,k3,bb,m,s,sn,k,q1,⟨qz,hne⟩,by rw [World.putObj_heap_other hne];exact q2⟩
  |sit s pos =>
   obtain ⟨k1,k2,k3,bb,q1,q2⟩:=(this:SitOk w l s pos)
   exact ⟨k1,k2,k3,bb,q1,by rw [hoth i l bb hl q1];exact q2⟩
 ·obtain ⟨h1,h2,h3⟩:=hI.own i l b hl hb
  exact ⟨h1,fun hf e=>h2 hf e.1,by simpa using h3⟩
 ·have:=hI.zlt b hb.1;simpa using this
 ·exact hI.below.trans ⟨rfl,rfl,rfl,by simp,fun k hk=>World.putObj_heap_other (by omega)⟩
 ·have:=hI.size;simpa using this
theorem leave_marks {lo:Nat} {ds:List Deferred} {u:FrameMode} (hu:u ≠ .run) (hB:B ≤ lo):∀ (ms:List Deferred) (g:Gh) (w:World) (fr:Frame) (cs:List Frame),Marks g w lo ms→fr.mode=u→fr.defers=ms ++ ds→Inv B w0 g h w →
  ∃ g' w',Steps P (lone fr cs w) (lone { fr with defers:=ds } cs w')∧Inv B w0 g' h w'∧(∀ v x,R g w v x→R g' w' v x)∧g'.κ=g.κ∧(∀ b,g'.Z b→g.Z b)∧(∀ b,b < lo→g.Z b→g'.Z b)∧(∀ b,b < lo→w'.heap[b]? = w.heap[b]?)∧w'.heap.size=w.heap.size:=by
 intro ms
 induction ms with
 |nil =>
  intro g w fr cs _ hm hd hI
  refine ⟨g,w,?_,hI,fun _ _ h=>h,rfl,fun _ h=>h,fun _ _ h=>h,fun _ _=>rfl,rfl⟩
  have:({ fr with defers:=ds }:Frame)=fr:=by
   have e:ds=fr.defers:=by simpa using hd.symm
   rw [e]
  rw [this]
  exact .refl _ _
 |cons d ms ih =>
  rintro g w fr cs ⟨⟨r,rfl,hz,hlo,hb,hne⟩,hms⟩ hm hd hI
  have h1:=step_collected (P:=P) (cs:=cs) (fr:=fr) (by rw [hm];exact hu) hd rfl (run_takeDeferred hb)
  have hms':Marks ⟨g.κ,fun b=>g.Z b∧b ≠ r⟩ (w.putObj r (.deferred none)) lo ms:=by
   have:∀ (ds:List Deferred),(∀ d' ∈ ds,d' ≠ { target:=.collected r,args:=#[] })→Marks g w lo ds→Marks ⟨g.κ,fun b=>g.Z b∧b ≠ r⟩ (w.putObj r (.deferred none)) lo ds:=by
    intro ds
    induction ds with
    |nil=>intro _ _;trivial
    |cons e ds ih2 =>
     rintro hne ⟨⟨q,rfl,z1,z2,z3,z4⟩,z5⟩
     have hq:q ≠ r:=fun e=>hne _ (List.mem_cons_self ..) (by rw [e])
     exact ⟨⟨q,rfl,⟨z1,hq⟩,z2,by rw [World.putObj_heap_other hq];exact z3,z4⟩,ih2 (fun d' hd'=>hne d' (List.mem_cons_of_mem _ hd')) z5⟩
   exact this ms hne hms
  obtain ⟨g',w',k1,k2,k3,k4,k5,k6,k7,k8⟩:=ih _ _ { fr with defers:=[] ++ (ms ++ ds) } cs hms' hm rfl (hI.unmark hb hz (by omega))
  refine ⟨g',w',Steps.trans (.one h1) k1,k2,fun v x hx=>k3 v x (hx.unmark hb),k4,fun b h=>(k5 b h).1,fun b hb h=>k6 b hb ⟨h,by omega⟩,fun b hb=>(k7 b hb).trans (World.putObj_heap_other (by omega)),by rw [k8];simp⟩
theorem RT.map {g':Gh} {w':World} (hm:RT g w m a) (hr:∀ v x,R g w v x→R g' w' v x):RT g' w' m a:=⟨fun t=>hr _ _ (hm t),fun k cs hk=>hr _ _ (hm.gl k cs hk)⟩
theorem body_sound {rdO:Nat→Option Rd} (hrk:∀ f r ct,RkOf P cm rdO f r ct→Sys.rk f r ct) {cal:Call} (hcal:CalOkP P cal) (hst:Stable (np cal) cm) (hmix:P.follows .mixedOrders=true) {n f:Nat} {d:Fn} (hok:okFn P cm rdO f d=true) {args:List FV} {nx:Nat} {x:Ex × Tm × Heap × Nat} {v:FV} (hnp:args.length=d.np)
  (hr:run cal n [.code d.body] (params 0 args) h nx=some x) (hfin:finish d x=some v) (hf:Fresh h nx) :
  entered P f=true∧New h x.2.2.1 nx x.2.2.2∧∀ B w0 g w xs,Inv B w0 g h w→GlOk g w→RL g w args xs →
   Calls P f xs.toArray w fun e w'=>∃ g',EndR g' w' v e∧Nx B w0 g g' x.2.2.1 w w'∧KNew g g' h x.2.2.1 (fun i=>nx ≤ i∧i < x.2.2.2):=by
 unfold okFn at hok
 split at hok
 ·rename_i fn hfn
  split at hok
  ·rename_i c hc
   simp only [Bool.and_eq_true,decide_eq_true_eq,Bool.not_eq_true'] at hok
   obtain ⟨⟨⟨k1,k2⟩,k3⟩,k4⟩:=hok
   obtain ⟨ex,m',h',nx'⟩:=x
   obtain ⟨⟨q1,q3,q4⟩,_⟩:=run_sound (nt:=fn.ntmps) (B:=0) (w0:=default) hrk hcal hst hmix n _ _ _ _ _ _ _ _ hr _ nx (.code c d.body [] [] k1 .nil) (fun b c hm=>by simp at hm) (Nat.le_refl _) hf
   refine ⟨by simp [entered,hfn,hc,k4],⟨q1,fun i hi hc=>by rcases hc with hc | hc;exact q4 i hc hi;exact q3 i hc⟩,fun B w0 g w xs hI hgl hx=>?_⟩
   obtain ⟨_,q2⟩:=run_sound (nt:=fn.ntmps) (B:=B) (w0:=w0) hrk hcal hst hmix n _ _ _ _ _ _ _ _ hr _ nx (.code c d.body [] [] k1 .nil) (fun b c hm=>by simp at hm) (Nat.le_refl _) hf
   intro cs
   let b:Frame:={ (default:Frame) with fn:=f,kind:=.normal,roundOf:=none }
   have hlen:=hx.length
   have henter:Frame.enter P f xs.toArray .normal=b.atR ⟨xs.toArray ++ Array.replicate (fn.ntmps - xs.length) undef,[]⟩ [.code c]:=by
    simp [Frame.enter,Frame.atR,hfn,hc,b]
   obtain ⟨g',a',w',K',ms,fr0,r1,r2,r3,r4,r5,r5',r6,r7⟩:=q2 g w ⟨xs.toArray ++ Array.replicate (fn.ntmps - xs.length) undef,[]⟩ b cs (fun q hq=>by cases hq) (fun id hm=>by simp at hm) (RT_params hx hgl _) (by simp;omega) hI
   rw [gcut_fresh hI hf] at r6
   have hdef:a'.defers=ms:=by rw [r5];simp
   have r7:KNew g g' h h' (fun i=>nx ≤ i∧i < nx'):=fun i hi hk=>by
    by_cases h1:nx ≤ i
    ·have h2:nx' ≤ i:=by
      rcases Nat.lt_or_ge i nx' with h3 | h3
      ·exact absurd ⟨h1,h3⟩ hi
      ·exact h3
     exact ⟨kNone r6.inv (q3 i h2),by rw [q3 i h2,hf i h1]⟩
    ·exact r7 i h1 hk
   have after:∀ (u:FrameMode) (fr:Frame),u ≠ .run→fr.mode=u→fr.defers=ms→∃ g2 w2,Steps P (lone fr cs w') (lone { fr with defers:=[] } cs w2)∧(∀ v x,R g' w' v x→R g2 w2 v x)∧Nx B w0 g g2 h' w w2∧KNew g g2 h h' (fun i=>nx ≤ i∧i < nx'):=by
    intro u fr hu hm hd
    obtain ⟨g2,w2,l1,l2,l3,l4,l5,l6,l7,l8⟩:=leave_marks (P:=P) (ds:=[]) hu hI.size ms g' w' fr cs r5' hm (by simpa using hd) r6.inv
    refine ⟨g2,w2,l1,l3,⟨l2,⟨fun b hb=>l6 b (hI.zlt b hb) (r6.le.z b hb),fun b hb=>(l7 b (hI.zlt b hb)).trans (r6.le.heap b hb),?_⟩,fun b hb=>r6.z b (l5 b hb),?_⟩,fun i hi hk=>by rw [l4];exact r7 i hi hk⟩
    ·rw [l4];exact r6.le.k
    ·rw [l8];exact r6.sz
   have key:(∃ out,readRes m' h' d.res=some out∧result out=v)→Steps P (lone (b.atR a' K') cs w') (lone { b.atR a' K' with mode:=.returning } cs w') →
     Steps P (lone (b.atR ⟨xs.toArray ++ Array.replicate (fn.ntmps - xs.length) undef,[]⟩ [.code c]) cs w) (lone (b.atR a' K') cs w') →
     ∃ e w'' fr,(∃ g',EndR g' w'' v e∧Nx B w0 g g' h' w w''∧KNew g g' h h' (fun i=>nx ≤ i∧i < nx'))∧Comes P (lone (Frame.enter P f xs.toArray .normal) cs w) (lone fr cs w'') e∧fr.fn=f∧fr.leaving P w'' e:=by
    rintro ⟨out,o1,rfl⟩ hs r1
    obtain ⟨g2,w2,l1,l2,l3,l4⟩:=after .returning { b.atR a' K' with mode:=.returning } (by simp) rfl hdef
    obtain ⟨y,o2,o3⟩:=results_sound l3.inv (r3.map l2) k3 o1
    refine ⟨.returned y,w2,{ { b.atR a' K' with mode:=.returning } with defers:=[] },⟨g2,.inl ⟨y,rfl,o3⟩,l3,l4⟩,?_,rfl,rfl,rfl,rfl,fn,hfn,o2⟩
    rw [henter]
    exact Steps.trans r1 (Steps.trans hs l1)
   cases ex with
   |xt id=>simp [finish] at hfin
   |fin =>
    simp only [finish] at hfin
    obtain ⟨out,o1,o2⟩:=bnd_some hfin
    simp only [Option.some.injEq] at o2
    obtain ⟨e,rfl⟩:=r2
    subst e
    exact key ⟨out,o1,o2⟩ (.one (stepR_end rfl)) r1
   |ret =>
    simp only [finish] at hfin
    obtain ⟨out,o1,o2⟩:=bnd_some hfin
    simp only [Option.some.injEq] at o2
    obtain ⟨⟨k,rfl⟩,rfl⟩:=r2
    exact key ⟨out,o1,o2⟩ (.one (stepR_ret rfl)) r1
   |pan u =>
    simp only [finish,Option.some.injEq] at hfin
    subst hfin
    obtain ⟨x,hx2,rfl⟩:=r2
    obtain ⟨g2,w2,l1,l2,l3,l4⟩:=after (.panicking [{ v:=x,recovered:=false }]) { b.atR a' K' with mode:=.panicking [{ v:=x,recovered:=false }] } (by simp) rfl hdef
    refine ⟨.panicked [{ v:=x,recovered:=false }],w2,{ { b.atR a' K' with mode:=.panicking [{ v:=x,recovered:=false }] } with defers:=[] },⟨g2,.inr ⟨u,x,rfl,rfl,l2 _ _ hx2⟩,l3,l4⟩,?_,rfl,rfl,rfl,fn,hfn⟩
    rw [henter]
    exact Steps.trans r1 l1
  ·simp at hok
 ·simp at hok
theorem Inv.scope (w:World) (Z:Nat→Prop) (hz:∀ b,Z b→b < w.heap.size):Inv w.heap.size w ⟨fun _=>none,Z⟩ [] w :=
 ⟨fun id l h=>by simp at h,fun id o l h=>by simp [hget] at h,fun i j li lj b h=>by simp at h,fun i l b h=>by simp at h,hz,Below.refl _ _,Nat.le_refl _⟩
theorem Nx.scope (hI:Inv B w0 g h w) (hb:Below w.heap.size w w'):Nx B w0 g ⟨g.κ,zone g.Z w w'⟩ h w w':=by
 have hle:GLe g ⟨g.κ,zone g.Z w w'⟩ w w':=⟨fun b h=>.inl h,fun b h=>hb.block b (hI.zlt b h),KLe.refl _⟩
 refine ⟨⟨hI.dom,fun i o l ho hl=>?_,hI.inj,fun i l b hl hbk=>?_,fun b hz=>?_,?_,Nat.le_trans hI.size hb.size⟩,hle,fun b hz=>?_,hb.size⟩
 ·exact (hI.obj i o l ho hl).mono hle fun b hbk=>hb.block b (hI.own i l b hl hbk).2.2
 ·obtain ⟨h1,h2,h3⟩:=hI.own i l b hl hbk
  refine ⟨h1,fun hf hz=>?_,Nat.lt_of_lt_of_le h3 hb.size⟩
  rcases hz with hz | hz
  ·exact h2 hf hz
  ·omega
 ·rcases hz with hz | hz
  ·exact Nat.lt_of_lt_of_le (hI.zlt b hz) hb.size
  ·exact hz.2
 ·exact hI.below.trans (hb.mono hI.size)
 ·rcases hz with hz | hz
  ·exact .inl hz
  ·exact .inr (Nat.le_trans hI.size hz.1)
theorem GlOk.scope (hgl:GlOk g w) {Z:Nat→Prop} (hz:∀ b,g.Z b→Z b):GlOk ⟨fun _=>none,Z⟩ w:=fun k cs hk=>(hgl k cs hk).pure hz (by simp only [pure_];exact Sys.glp k cs hk)
theorem isoCall_sound {f:Nat} {args:List FV} {v:FV} (hc:IsoCallP P f args v) (hp:pures args=true) (hI:Inv B w0 g h w) (hgl:GlOk g w) {xs:List Value} (hx:RL g w args xs) (nx:Nat) :
  Calls P f xs.toArray w fun e w'=>∃ g',EndR g' w' v e∧Nx B w0 g g' h w w'∧KNew g g' h h (fun i=>nx ≤ i∧i < nx):=by
 refine (hc g.Z w xs hI.zlt (hgl.scope fun _ h=>h) (RL.pure (g:=g) (g2:=⟨fun _=>none,g.Z⟩) (fun _ h=>h) hx hp)).mono ?_
 rintro e w' ⟨hb,hr⟩
 have up:∀ v x,R ⟨fun _=>none,zone g.Z w w'⟩ w' v x→R ⟨g.κ,zone g.Z w w'⟩ w' v x:=fun v x hr=>R.mono (g:=⟨fun _=>none,zone g.Z w w'⟩) (g':=⟨g.κ,zone g.Z w w'⟩) (w':=w') ⟨fun _ h=>h,fun _ _=>rfl,fun id l h=>by simp at h⟩ hr
 refine ⟨⟨g.κ,zone g.Z w w'⟩,?_,Nx.scope hI hb,fun _ _ h=>⟨h,rfl⟩⟩
 rcases hr with ⟨x,rfl,hr⟩ | ⟨u,x,rfl,rfl,hr⟩
 ·exact .inl ⟨x,rfl,up _ _ hr⟩
 ·exact .inr ⟨u,x,rfl,rfl,up _ _ hr⟩
theorem enter_iso {rdO:Nat→Option Rd} (hrk:∀ f r ct,RkOf P cm rdO f r ct→Sys.rk f r ct) {cal:Call} (hcal:CalOkP P cal) (hst:Stable (np cal) cm) (hmix:P.follows .mixedOrders=true) {n f:Nat} {d:Fn} (hok:okFn P cm rdO f d=true) (hmode:d.mode=.iso) {args:List FV} {nx nx':Nat} {v:FV}
  (he:enter cal n d args h nx=some (v,h',nx')):entered P f=true∧h'=h∧nx'=nx∧pures args=true∧IsoCallP P f args v:=by
 unfold enter at he
 obtain ⟨hnp,he⟩:=chk_some he
 rw [hmode] at he
 simp only at he
 obtain ⟨hp,he⟩:=chk_some he
 obtain ⟨x,k1,he⟩:=bnd_some he
 obtain ⟨u,k2,he⟩:=bnd_some he
 obtain ⟨r,k3,he⟩:=bnd_some he
 simp only [Option.some.injEq,Prod.mk.injEq] at he
 obtain ⟨rfl,rfl,rfl⟩:=he
 obtain ⟨q1,q2,q3⟩:=body_sound hrk hcal hst hmix hok hnp k1 k2 (fun i _=>rfl)
 refine ⟨q1,rfl,rfl,hp,fun Z w xs hz hgl hx=>?_⟩
 refine (q3 w.heap.size w ⟨fun _=>none,Z⟩ w xs (Inv.scope w Z hz) hgl hx).mono ?_
 rintro e w' ⟨g',h1,h2,h3⟩
 refine ⟨h2.inv.below,?_⟩
 have fz:=frz_both (g2:=⟨fun _=>none,zone Z w w'⟩) h2.inv (fun b hb=>by
  rcases h2.z b hb with h4 | h4
  ·exact .inl h4
  ·exact .inr ⟨h4,h2.inv.zlt b hb⟩) (fun i l b hl hbk=>by
  have:=h2.inv.own i l b hl hbk
  exact .inr ⟨this.1,this.2.2⟩)
 rcases h1 with ⟨y,rfl,h1⟩ | ⟨q,y,rfl,rfl,h1⟩
 ·exact .inl ⟨y,rfl,((fz deep).1 u _ k3).val y h1⟩
 ·have:∃ r',frz x.2.2.1 1152921504606846975 q=some r'∧r=.pan r':=by
   rw [show deep=1152921504606846975 + 1 from rfl,frz_pan] at k3
   obtain ⟨r',k4,k5⟩:=bnd_some k3
   simp only [Option.some.injEq] at k5
   exact ⟨r',k4,k5.symm⟩
  obtain ⟨r',k4,rfl⟩:=this
  exact .inr ⟨r',y,rfl,rfl,((fz _).1 q _ k4).val y h1⟩
omit [Sys] in
theorem frzs_len {h:Heap}:∀ n (vs rs:List FV),frzs h n vs=some rs→rs.length=vs.length:=by
 intro n
 induction n with
 |zero=>intro vs rs hf;cases vs with
  |nil=>simp only [frzs,Option.some.injEq] at hf;subst hf;rfl
  |cons=>simp [frzs] at hf
 |succ n ih=>intro vs rs hf;cases vs with
  |nil=>simp only [frzs,Option.some.injEq] at hf;subst hf;rfl
  |cons v vs =>
   simp only [frzs] at hf
   obtain ⟨r,_,hf⟩:=bnd_some hf
   obtain ⟨rr,k,hf⟩:=bnd_some hf
   simp only [Option.some.injEq] at hf;subst hf
   simp [ih _ _ k]
theorem enter_isf {rdO:Nat→Option Rd} (hrk:∀ f r ct,RkOf P cm rdO f r ct→Sys.rk f r ct) {cal:Call} (hcal:CalOkP P cal) (hst:Stable (np cal) cm) (hmix:P.follows .mixedOrders=true) {n f:Nat} {d:Fn} (hok:okFn P cm rdO f d=true) (hmode:d.mode=.isf) {args:List FV} {nx nx':Nat} {v:FV}
  (he:enter cal n d args h nx=some (v,h',nx')):entered P f=true∧h'=h∧nx'=nx∧∀ B w0 g w xs,Inv B w0 g h w→GlOk g w→RL g w args xs →
   Calls P f xs.toArray w fun e w'=>∃ g',EndR g' w' v e∧Nx B w0 g g' h w w'∧KNew g g' h h (fun i=>nx ≤ i∧i < nx):=by
 unfold enter at he
 obtain ⟨hnp,he⟩:=chk_some he
 rw [hmode] at he
 simp only at he
 obtain ⟨as,k0,he⟩:=bnd_some he
 obtain ⟨x,k1,he⟩:=bnd_some he
 obtain ⟨u,k2,he⟩:=bnd_some he
 obtain ⟨k3,he⟩:=chk_some he
 simp only [Option.some.injEq,Prod.mk.injEq] at he
 obtain ⟨rfl,rfl,rfl⟩:=he
 have hlen:as.length=args.length:=frzs_len _ _ _ k0
 obtain ⟨q1,q2,q3⟩:=body_sound hrk hcal hst hmix hok (by rw [hlen];exact hnp) k1 k2 (fun i _=>rfl)
 refine ⟨q1,rfl,rfl,fun B w0 g w xs hI hgl hx=>?_⟩
 have hx2:=((frz_both (g2:=⟨fun _=>none,fun b=>b < w.heap.size⟩) hI (fun b hb=>hI.zlt b hb) (fun i l b hl hbk=>(hI.own i l b hl hbk).2.2) deep).2 args as k0).val xs hx
 refine (q3 w.heap.size w ⟨fun _=>none,fun b=>b < w.heap.size⟩ w xs (Inv.scope w _ (fun _ h=>h)) (hgl.scope fun b hb=>hI.zlt b hb) hx2).mono ?_
 rintro e w' ⟨g',h1,h2,h3⟩
 rcases h1 with ⟨y,rfl,h1⟩ | ⟨q,y,rfl,rfl,h1⟩
 ·exact ⟨⟨g.κ,zone g.Z w w'⟩,.inl ⟨y,rfl,h1.flat k3⟩,Nx.scope hI h2.inv.below,fun _ _ h=>⟨h,rfl⟩⟩
 ·simp [flat] at k3
theorem enter_isc {rdO:Nat→Option Rd} (hrk:∀ f r ct,RkOf P cm rdO f r ct→Sys.rk f r ct) {cal:Call} (hcal:CalOkP P cal) (hst:Stable (np cal) cm) (hmix:P.follows .mixedOrders=true) {n f:Nat} {d:Fn} (hok:okFn P cm rdO f d=true) (hmode:d.mode=.isc) {args:List FV} {nx nx':Nat} {v:FV}
  (he:enter cal n d args h nx=some (v,h',nx')):entered P f=true∧h'=froze h (idL h deep args)∧nx'=nx∧∀ B w0 g w xs,Inv B w0 g h w→GlOk g w→RL g w args xs →
   Calls P f xs.toArray w fun e w'=>∃ g',EndR g' w' v e∧Nx B w0 g g' h' w w'∧KNew g g' h h' (fun i=>nx ≤ i∧i < nx):=by
 unfold enter at he
 obtain ⟨hnp,he⟩:=chk_some he
 rw [hmode] at he
 simp only at he
 obtain ⟨as,k0,he⟩:=bnd_some he
 obtain ⟨x,k1,he⟩:=bnd_some he
 obtain ⟨u,k2,he⟩:=bnd_some he
 obtain ⟨r,k3,he⟩:=bnd_some he
 simp only [Option.some.injEq,Prod.mk.injEq] at he
 obtain ⟨rfl,rfl,rfl⟩:=he
 have hlen:as.length=args.length:=frzs_len _ _ _ k0
 obtain ⟨q1,q2,q3⟩:=body_sound hrk hcal hst hmix hok (by rw [hlen];exact hnp) k1 k2 (fun i _=>rfl)
 refine ⟨q1,rfl,rfl,fun B w0 g w xs hI hgl hx=>?_⟩
 have hx2:=((frz_ids (g2:=⟨fun _=>none,ZF g h (idL h deep args)⟩) hI (fun b hb=>.inl hb) deep).2 args as k0 (fun i hi es xs hg l b hl hb=>.inr ⟨i,hi,es,xs,hg,l,hl,hb⟩)).val xs hx
 have hI2:=froze_inv (idL h deep args) g h hI
 refine (q3 w.heap.size w ⟨fun _=>none,ZF g h (idL h deep args)⟩ w xs (Inv.scope w _ hI2.zlt) (hgl.scope fun b hb=>.inl hb) hx2).mono ?_
 rintro e w' ⟨g',h1,h2,h3⟩
 have fz:=frz_both (g2:=⟨fun _=>none,zone (ZF g h (idL h deep args)) w w'⟩) h2.inv (fun b hb=>by
  rcases h2.z b hb with h4 | h4
  ·exact .inl h4
  ·exact .inr ⟨h4,h2.inv.zlt b hb⟩) (fun i l b hl hbk=>by
  have:=h2.inv.own i l b hl hbk
  exact .inr ⟨this.1,this.2.2⟩)
 have up:∀ v x,R ⟨fun _=>none,zone (ZF g h (idL h deep args)) w w'⟩ w' v x→R ⟨g.κ,zone (ZF g h (idL h deep args)) w w'⟩ w' v x:=fun v x hr=>R.mono (g:=⟨fun _=>none,zone (ZF g h (idL h deep args)) w w'⟩) (g':=⟨g.κ,zone (ZF g h (idL h deep args)) w w'⟩) (w':=w') ⟨fun _ h=>h,fun _ _=>rfl,fun id l h=>by simp at h⟩ hr
 have hN:=Nx.scope hI2 h2.inv.below
 have hN2:Nx B w0 g ⟨g.κ,zone (ZF g h (idL h deep args)) w w'⟩ (froze h (idL h deep args)) w w':=by
  refine ⟨hN.inv,GLe.trans (g':=⟨g.κ,ZF g h (idL h deep args)⟩) (w':=w) ⟨fun b h=>.inl h,fun _ _=>rfl,KLe.refl _⟩ hN.le,fun b hb=>?_,hN.sz⟩
  rcases hN.z b hb with (hb | ⟨i,_,_,_,_,l,k1,k2⟩) | hb
  ·exact .inl hb
  ·exact .inr (hI.own i l b k1 k2).1
  ·exact .inr hb
 have hK:KNew g ⟨g.κ,zone (ZF g h (idL h deep args)) w w'⟩ h (froze h (idL h deep args)) (fun i=>nx ≤ i∧i < nx):=fun i _ hk=>⟨hk,froze_get _ _ fun hm=>by
  obtain ⟨l,hl⟩:=(ids_known hI deep).2 _ _ hx i hm
  rw [hk] at hl;cases hl⟩
 refine ⟨⟨g.κ,zone (ZF g h (idL h deep args)) w w'⟩,?_,hN2,hK⟩
 rcases h1 with ⟨y,rfl,h1⟩ | ⟨q,y,rfl,rfl,h1⟩
 ·exact .inl ⟨y,rfl,up _ _ (((fz deep).1 u _ k3).val y h1)⟩
 ·have:∃ r',frz x.2.2.1 1152921504606846975 q=some r'∧r=.pan r':=by
   rw [show deep=1152921504606846975 + 1 from rfl,frz_pan] at k3
   obtain ⟨r',k4,k5⟩:=bnd_some k3
   simp only [Option.some.injEq] at k5
   exact ⟨r',k4,k5.symm⟩
  obtain ⟨r',k4,rfl⟩:=this
  exact .inr ⟨r',y,rfl,rfl,up _ _ (((fz _).1 q _ k4).val y h1)⟩
theorem run_recover {ρ:Operand→Value} {dst:Option Tmp} {ts:Array TypeId} {ty:TypeId} {pos:String} {aft:Array Edge} {gd:Option (Nat × Bool)}:(execOp ρ ⟨dst,.call ⟨.builtin .recover,#[],ts⟩,ty,pos,aft,gd⟩).run P w=.ok .recover w:=by
 simp [execOp,resolve,go_sem,invoke]
theorem handler_sound {rdO:Nat→Option Rd} (hrk:∀ f r ct,RkOf P cm rdO f r ct→Sys.rk f r ct) {cal:Call} (hcal:CalOkP P cal) (hst:Stable (np cal) cm) (hmix:P.follows .mixedOrders=true) {n gf:Nat} {gn:Func} {hb:Code} {c:C} {id:Nat} {t:Nat} {ty:TypeId} {pos:String} {aft:Array Edge} {ts:Array TypeId}
  (hgn:P.funcs[gf]? = some gn) (hbody:gn.body=some (.seq (.region id #[⟨some t,.call ⟨.builtin .recover,#[],ts⟩,ty,pos,aft,none⟩] false) hb)) (hok:okC P cm rdO gn.ntmps hb c=true) (hres:gn.results=#[]) (ht:t < gn.ntmps) {caps:List FV} {vals:List Value} (hlen:caps.length ≤ gn.ntmps)
  {u:FV} {nx:Nat} {z:Ex × Tm × Heap × Nat} (hr:run cal n [.code c] ((t,u)::params 0 caps) h nx=some z) (hend:isEnd z.1=true) (hf:Fresh h nx) (hI:Inv B w0 g h w) (hgl:GlOk g w) (hc:RL g w caps vals)
  (fr:Frame) (cs:List Frame) (hu:(fr.mode=.returning∧u=.nili) ∨ ∃ x,fr.mode=.panicking [{ v:=x,recovered:=false }]∧R g w u x) :
  ∃ g' w',Steps P (lone (Frame.enter P gf vals.toArray .deferred) (fr::cs) w) (lone { fr with mode:=.returning } cs w')∧(∀ v x,R g w v x→R g' w' v x)∧Inv B w0 g' z.2.2.1 w'∧(∀ b,g'.Z b→g.Z b ∨ B ≤ b)∧GLe g g' w w':=by
 obtain ⟨ex,m',h',nx'⟩:=z
 let bd:Frame:={ (default:Frame) with fn:=gf,kind:=.deferred,roundOf:=none }
 have hlen':=hc.length
 have henter:Frame.enter P gf vals.toArray .deferred=bd.atR ⟨vals.toArray ++ Array.replicate (gn.ntmps - vals.length) undef,[]⟩ [.code (.seq (.region id #[⟨some t,.call ⟨.builtin .recover,#[],ts⟩,ty,pos,aft,none⟩] false) hb)]:=by
  simp [Frame.enter,Frame.atR,hgn,hbody,bd]
 have hRT0:=RT_params hc hgl (gn.ntmps - vals.length)
 have hsz0:(⟨vals.toArray ++ Array.replicate (gn.ntmps - vals.length) undef,[]⟩:Act).tmps.size=gn.ntmps:=by simp;omega
 have hdf0:(⟨vals.toArray ++ Array.replicate (gn.ntmps - vals.length) undef,[]⟩:Act).defers=[]:=rfl
 generalize (⟨vals.toArray ++ Array.replicate (gn.ntmps - vals.length) undef,[]⟩:Act)=a0 at *
 have hrec:∃ x u',R g w u x∧a0.defers=a0.defers∧settle u'=.returning∧Steps P (lone (bd.atR a0 [.code (.seq (.region id #[⟨some t,.call ⟨.builtin .recover,#[],ts⟩,ty,pos,aft,none⟩] false) hb)]) (fr::cs) w) (lone (bd.atR (a0.put (some t) x) [.code hb]) ({ fr with mode:=u' }::cs) w):=by
  have s0:Steps P (lone (bd.atR a0 [.code (.seq (.region id #[⟨some t,.call ⟨.builtin .recover,#[],ts⟩,ty,pos,aft,none⟩] false) hb)]) (fr::cs) w) (lone (bd.atR a0 (.inRegion #[⟨some t,.call ⟨.builtin .recover,#[],ts⟩,ty,pos,aft,none⟩] [0]::[.code hb])) (fr::cs) w) :=
   Steps.trans (.one stepR_seq) (.one stepR_region)
  have go:∀ (x:Value) (cs':List Frame),(match recoverD (fr::cs) with
     |some (v,cs')=>(v,cs')
     |none=>(.nilIface,fr::cs))=(x,cs')→Steps P (lone (bd.atR a0 (.inRegion #[⟨some t,.call ⟨.builtin .recover,#[],ts⟩,ty,pos,aft,none⟩] [0]::[.code hb])) (fr::cs) w) (lone (bd.atR (a0.put (some t) x) [.code hb]) cs' w):=by
   intro x cs' hx
   have hwp:wpOpsSIn (fb none) 0 P #[⟨some t,.call ⟨.builtin .recover,#[],ts⟩,ty,pos,aft,none⟩] (fun e a' cs'' w'=>e=.normal∧a'=a0.put (some t) x∧cs''=cs'∧w'=w) [0] a0 (fr::cs) w:=by
    have hrr:=run_recover (P:=P) (w:=w) (ρ:=a0.eval) (dst:=some t) (ts:=ts) (ty:=ty) (pos:=pos) (aft:=aft) (gd:=none)
    have hdd:(⟨some t,.call ⟨.builtin .recover,#[],ts⟩,ty,pos,aft,none⟩:Oper).dst=some t:=rfl
    have hww:Region.wanted (⟨some t,.call ⟨.builtin .recover,#[],ts⟩,ty,pos,aft,none⟩:Oper) (yielded #[⟨some t,.call ⟨.builtin .recover,#[],ts⟩,ty,pos,aft,none⟩] a0.tmps)=true:=rfl
    generalize (⟨some t,.call ⟨.builtin .recover,#[],ts⟩,ty,pos,aft,none⟩:Oper)=o at hrr hdd hww ⊢
    unfold wpOpsSIn
    rw [show (#[o]:Array Oper)[0]? = some o from rfl]
    simp only
    refine ⟨fun _ _=>trivial,?_⟩
    rw [if_pos hww,hrr,hdd]
    simp only [wpOpsSIn]
    cases hq:recoverD (fr::cs) with
    |none=>rw [hq] at hx;simp only [Prod.mk.injEq] at hx;obtain ⟨rfl,rfl⟩:=hx;exact by simp
    |some p=>obtain ⟨v,q⟩:=p;rw [hq] at hx;simp only [Prod.mk.injEq] at hx;obtain ⟨rfl,rfl⟩:=hx;exact by simp
   obtain ⟨e,a',cs'',w',_,⟨rfl,rfl,rfl,rfl⟩,harr⟩:=wp_opsSIn [0] a0 (fr::cs) w hwp bd [.code hb] rfl rfl trivial (room_fb _ _)
   exact StepsIn.steps harr
  rcases hu with ⟨hm,rfl⟩ | ⟨x,hm,hx⟩
  ·refine ⟨.nilIface,.returning,.nili,rfl,rfl,s0.trans ?_⟩
   have e:({ fr with mode:=.returning }:Frame)=fr:=by rw [← hm]
   rw [e]
   exact go _ _ (by simp [recoverD,hm])
  ·exact ⟨x,.panicking [{ v:=x,recovered:=true }],hx,rfl,rfl,s0.trans (go _ _ (by simp [recoverD,hm]))⟩
 obtain ⟨x,u',hx,_,hset,hs1⟩:=hrec
 obtain ⟨⟨q1,q3,q4⟩,q2⟩:=run_sound (nt:=gn.ntmps) (B:=B) (w0:=w0) (K0:=[]) hrk hcal hst hmix n _ _ _ _ _ _ _ _ hr _ nx (.code hb c [] [] hok .nil) (fun b c hm=>by simp at hm) (Nat.le_refl _) hf
 have hRT1:RT g w ((t,u)::params 0 caps) (a0.put (some t) x):=hRT0.put hsz0 (d:=some t) (by simp [okDst,ht]) hx
 obtain ⟨g',a',w',K',ms,fr0,r1,r2,r3,r4,r5,r5',r6,r7⟩:=q2 g w _ bd ({ fr with mode:=u' }::cs) (fun q hq=>by cases hq) (fun id hm=>by simp at hm) hRT1 (by rw [put_size];exact hsz0) hI
 rw [gcut_fresh hI hf] at r6
 have hd0:a'.defers=ms ++ []:=by
  rw [r5,put_defers]
  rw [hdf0]
 have fin:Steps P (lone fr0 ({ fr with mode:=u' }::cs) w') (lone { bd.atR a' K' with mode:=.returning } ({ fr with mode:=u' }::cs) w'):=by
  cases ex with
  |fin=>obtain ⟨e,rfl⟩:=r2;subst e;exact .one (stepR_end rfl)
  |ret=>obtain ⟨⟨k,rfl⟩,rfl⟩:=r2;exact .one (stepR_ret rfl)
  |xt id=>simp [isEnd] at hend
  |pan q=>simp [isEnd] at hend
 obtain ⟨g2,w2,l1,l2,l3,l4,l5,l6,l7,l8⟩:=leave_marks (P:=P) (ds:=[]) (u:=.returning) (by simp) hI.size ms g' w' { bd.atR a' K' with mode:=.returning } ({ fr with mode:=u' }::cs) r5' rfl hd0 r6.inv
 have hgo:({ { bd.atR a' K' with mode:=.returning } with defers:=[] }:Frame).going P w2 (.returned (.tuple #[])):=by
  refine ⟨rfl,rfl,gn,hgn,?_⟩
  simp [results,hres]
 have hlast:=step_going_returned (c:={ fr with mode:=u' }) (cs:=cs) (fr:={ { bd.atR a' K' with mode:=.returning } with defers:=[] }) (w:=w2) (P:=P) rfl hgo
 simp only [hset] at hlast
 have hle:GLe g g2 w w2:=⟨fun b hb=>l6 b (hI.zlt b hb) (r6.le.z b hb),fun b hb=>(l7 b (hI.zlt b hb)).trans (r6.le.heap b hb),by rw [l4];exact r6.le.k⟩
 refine ⟨g2,w2,?_,fun v y hv=>l3 _ _ (hv.mono r6.le),l2,fun b hb=>r6.z b (l5 b hb),hle⟩
 rw [henter]
 exact hs1.trans (Steps.trans r1 (Steps.trans fin (Steps.trans l1 (.one hlast))))
theorem resolve_defer {fo:Operand} {q:Nat} {vals:List Value} (hev:a.eval fo=.func (.func q) #[] vals.toArray) (ts:Array TypeId) (ty:TypeId):(resolve a.eval ⟨.value fo,#[],ts⟩ ty).run P w=.ok { target:=.fn (.func q) vals.toArray,args:=#[] } w:=by
 simp only [resolve,hev]
 simp [go_sem]
theorem run_defer {fo:Operand} {q:Nat} {vals:List Value} (hev:a.eval fo=.func (.func q) #[] vals.toArray) {dst:Option Tmp} {ts:Array TypeId} {ty:TypeId} {pos:String} {aft:Array Edge} {gd:Option (Nat × Bool)} :
  (Oper.semAt none a.eval ⟨dst,.defer ⟨.value fo,#[],ts⟩,ty,pos,aft,gd⟩).run P w=.ok (.defer { target:=.fn (.func q) vals.toArray,args:=#[] }) w:=by
 show (do pure (.defer (← resolve a.eval ⟨.value fo,#[],ts⟩ ty)):Sem Next).run P w=_
 simp only [Sem.run_bind,resolve_defer hev,Result.andThen_ok,Sem.run_pure]
theorem enter_ct {rdO:Nat→Option Rd} (hrk:∀ f r ct,RkOf P cm rdO f r ct→Sys.rk f r ct) {cal:Call} (hcal:CalOkP P cal) (hst:Stable (np cal) cm) (hmix:P.follows .mixedOrders=true) {n f:Nat} {c:Ct} (hok:okCt P cm rdO f c=true) {args:List FV} {nx nx':Nat} {v:FV}
  (he:enterC cal n c args h nx=some (v,h',nx')):entered P f=true∧h'=h∧nx'=nx∧pures args=true∧IsoCall P f args v:=by
 unfold enterC at he
 obtain ⟨⟨hnp,hp⟩,he⟩:=chk_some he
 obtain ⟨⟨m2,h3,nx3⟩,k1,he⟩:=bnd_some he
 obtain ⟨out,k2,he⟩:=bnd_some he
 obtain ⟨r,k3,he⟩:=bnd_some he
 simp only [Option.some.injEq,Prod.mk.injEq] at he
 obtain ⟨rfl,rfl,rfl⟩:=he
 unfold runC at k1
 obtain ⟨⟨m1,h1,nx1⟩,j1,k1⟩:=bnd_some k1
 obtain ⟨⟨ex,m2',h2,nx2⟩,j2,k1⟩:=bnd_some k1
 obtain ⟨u,j3,k1⟩:=bnd_some k1
 obtain ⟨z,j4,k1⟩:=bnd_some k1
 obtain ⟨j5,k1⟩:=chk_some k1
 simp only [Option.some.injEq,Prod.mk.injEq] at k1
 obtain ⟨rfl,rfl,rfl⟩:=k1
 unfold okCt at hok
 split at hok
 ·rename_i fn hfn
  split at hok
  ·rename_i pid pre rid ops rest hbody
   simp only [Bool.and_eq_true,decide_eq_true_eq,Bool.not_eq_true'] at hok
   obtain ⟨⟨⟨⟨⟨⟨⟨⟨o1,o2⟩,o3⟩,o4⟩,o5⟩,o6⟩,o7⟩,o8⟩,o9⟩:=hok
   split at o8
   ·rename_i d gf first caps ty1 pos1 aft1 d' as ts ty2 pos2 aft2 hops
    simp only [Bool.and_eq_true,beq_iff_eq] at o8
    obtain ⟨⟨⟨⟨⟨rfl,rfl⟩,rfl⟩,p4⟩,p5⟩,p6⟩:=o8
    have eops:=arr_of_toList hops
    have ef:first=#[]:=by simpa using p4
    have ea:as=#[]:=by simpa using p5
    subst ef;subst ea
    split at o9
    ·rename_i gn hgn
     split at o9
     ·rename_i id2 ops2 hb hbody2
      simp only [Bool.and_eq_true,decide_eq_true_eq,Bool.not_eq_true'] at o9
      obtain ⟨⟨⟨⟨⟨s1,s2⟩,s3⟩,s4⟩,s5⟩,s6⟩:=o9
      split at s6
      ·rename_i t as2 ts2 ty3 pos3 aft3 hops2
       simp only [Bool.and_eq_true,beq_iff_eq] at s6
       obtain ⟨rfl,s7⟩:=s6
       have eops2:=arr_of_toList hops2
       have ea2:as2=#[]:=by simpa using s7
       subst ea2
       have hres:gn.results=#[]:=by simpa using s3
       rw [eops2] at hbody2
       refine ⟨by simp [entered,hfn,hbody,o5],rfl,rfl,hp,fun Z w xs hz hgl hx=>?_⟩
       intro cs
       have hI:=Inv.scope w Z hz
       let b:Frame:={ (default:Frame) with fn:=f,kind:=.normal,roundOf:=none }
       have hlen:=hx.length
       have henter:Frame.enter P f xs.toArray .normal=b.atR ⟨xs.toArray ++ Array.replicate (fn.ntmps - xs.length) undef,[]⟩ [.code (.seq (.region pid pre false) (.seq (.region rid ops false) rest))]:=by
        simp [Frame.enter,Frame.atR,hfn,hbody,b]
       have hRT0:=RT_params hx hgl (fn.ntmps - xs.length)
       have hsz0:(⟨xs.toArray ++ Array.replicate (fn.ntmps - xs.length) undef,[]⟩:Act).tmps.size=fn.ntmps:=by simp;omega
       have hdf0:(⟨xs.toArray ++ Array.replicate (fn.ntmps - xs.length) undef,[]⟩:Act).defers=[]:=rfl
       generalize (⟨xs.toArray ++ Array.replicate (fn.ntmps - xs.length) undef,[]⟩:Act)=a0 at *
       have hfr0:Fresh ([]:Heap) c.pre.length:=fun i _=>rfl
       have hn0:∀ j,0 ≤ j→j < 0 + c.pre.length→hget ([]:Heap) j=none:=fun _ _ _=>rfl
       have hlen1:=(okGs_get _ _ o1).1
       have hsz1:pre.size=c.pre.length:=by simpa using hlen1
       have hwp:=rops_sound (r:=none) (n:=0) (ops:=pre) (P:=P) (nt:=fn.ntmps) (B:=w.heap.size) (w0:=w) (N:=fun _=>True) (a0:=a0) hcal.np c.pre 0 0 (params 0 args) [] c.pre.length m1 h1 nx1 ⟨fun _=>none,Z⟩ w a0 (by simpa using o1) j1 hRT0 hsz0 rfl (.refl hI) hn0 (by omega) hfr0 (fun _ _ h=>⟨h,rfl⟩) (fun _ _ _=>trivial) (fun _ _ _=>trivial)
       obtain ⟨e1,a1,w1,⟨rfl,g1,f1,f2,f3,f4,f5⟩,harr1⟩:=wp_opsIn _ a0 w hwp b [.code (.seq (.region rid ops false) rest)] cs rfl trivial (room_fb _ _)
       have st1:Steps P (lone (b.atR a0 [.code (.seq (.region pid pre false) (.seq (.region rid ops false) rest))]) cs w) (lone (b.atR a1 [.code (.seq (.region rid ops false) rest)]) cs w1):=by
        refine Steps.trans (.one stepR_seq) (Steps.trans (.one stepR_region) ?_)
        rw [List.range_eq_range',hsz1]
        exact StepsIn.steps harr1
       obtain ⟨n1,n2⟩:=rops_new hcal.np c.pre 0 _ [] c.pre.length m1 h1 nx1 hn0 (by omega) hfr0 j1
       have hfr1:Fresh h1 nx1:=fun i hi=>n2 i rfl (by omega) (.inr hi)
       have hcaps:=RL_okXs f1 p6
       have hfnR:R g1 w1 (.fn c.g (evs m1 (c.ct.map .t))) (.func (.func c.g) #[] (caps.toList.map a1.eval).toArray):=.fn _ _ _ o7 hcaps
       obtain ⟨x1,hx1⟩:∃ x1:Value,x1=.func (.func c.g) #[] (caps.toList.map a1.eval).toArray:=⟨_,rfl⟩
       have hdl:c.dst < a1.tmps.size:=by rw [f2];exact o6
       have hev2:(a1.put (some c.dst) x1).eval (.tmp c.dst)=.func (.func c.g) #[] (caps.toList.map a1.eval).toArray:=by
        simp [Act.eval,Act.put,Array.getD,hdl,hx1]
       have hwp2:wpOpsIn (fb none) 0 P ops (fun e a' w'=>e=.normal∧a'={ a1.put (some c.dst) x1 with defers:={ target:=.fn (.func c.g) (caps.toList.map a1.eval).toArray,args:=#[] }::a1.defers }∧w'=w1) (List.range ops.size) a1 w1:=by
        rw [eops]
        show wpOpsIn _ _ _ _ _ [0,1] _ _
        rw [wpOpsIn_cons]
        unfold wpOpIn
        simp only [List.getElem?_toArray,List.getElem?_cons_zero]
        have hw1:∀ (o:Oper) (hg:o.guard=none) (p:Nat→Option Bool),Region.wanted o p=true:=fun o hg p=>by simp [Region.wanted,hg]
        rw [hw1 _ rfl,if_pos rfl]
        refine ⟨fun _ _=>trivial,?_⟩
        rw [Oper.semAt_eq _ _ _ (by intro c;simp)]
        rw [exec_of_value (Instr.makeFunc (.func c.g) (#[].map a1.eval) (caps.map a1.eval)) rfl (z:=x1) (w':=w1) (by
         have e2:caps.map a1.eval=(caps.toList.map a1.eval).toArray:=by cases caps;simp
         rw [e2,hx1,show (#[]:Array Operand).map a1.eval=#[] by simp];rfl)]
        rw [Oper.uponIn_value,wpOpsIn_cons]
        unfold wpOpIn
        simp only [List.getElem?_toArray,List.getElem?_cons_succ,List.getElem?_cons_zero]
        rw [hw1 _ rfl,if_pos rfl]
        refine ⟨fun _ _=>trivial,?_⟩
        rw [show (fb none).round=none from rfl,run_defer hev2,Oper.uponIn_defer]
        exact ⟨rfl,by simp [Act.put],rfl⟩
       obtain ⟨e2,a2,w2',⟨rfl,ha2,rfl⟩,harr2⟩:=wp_opsIn _ a1 w1 hwp2 b [.code rest] cs rfl trivial (room_fb _ _)
       have st2:Steps P (lone (b.atR a1 [.code (.seq (.region rid ops false) rest)]) cs w2') (lone (b.atR a2 [.code rest]) cs w2') :=
        Steps.trans (.one stepR_seq) (Steps.trans (.one stepR_region) (StepsIn.steps harr2))
       have hRT2:RT g1 w2' (put (keepOf m1 c.keep) (some c.dst) (.fn c.g (evs m1 (c.ct.map .t)))) a2:=by
        rw [ha2]
        exact ((f1.keep c.keep).put f2 (d:=some c.dst) (by simp [okDst,o6]) (by rw [hx1];exact hfnR)).defers _
       have hsz2:a2.tmps.size=fn.ntmps:=by rw [ha2];show (a1.put (some c.dst) x1).tmps.size=_;rw [put_size];exact f2
       obtain ⟨⟨q1,q3,q4⟩,q2⟩:=run_sound (nt:=fn.ntmps) (B:=w.heap.size) (w0:=w) (K0:=[]) hrk hcal hst hmix n _ _ _ _ _ _ _ _ j2 _ nx1 (.code rest c.rest [] [] o2 .nil) (fun b c hm=>by simp at hm) (Nat.le_refl _) hfr1
       obtain ⟨g3,a3,w3,K',ms,fr0,r1,r2,r3,r4,r5,r5',r6,r7⟩:=q2 g1 w2' a2 b cs (fun q hq=>by cases hq) (fun id hm=>by simp at hm) hRT2 hsz2 f4.inv
       rw [gcut_fresh f4.inv hfr1] at r6
       have hdef:a3.defers=ms ++ [{ target:=.fn (.func c.g) (caps.toList.map a1.eval).toArray,args:=#[] }]:=by
        rw [r5,ha2,f3,hdf0]
       have hmode:∃ md:FrameMode,md ≠ .run∧Steps P (lone fr0 cs w3) (lone { b.atR a3 K' with mode:=md } cs w3)∧((md=.returning∧u=.nili) ∨ ∃ x,md=.panicking [{ v:=x,recovered:=false }]∧R g3 w3 u x):=by
        cases ex with
        |fin =>
         obtain ⟨e,rfl⟩:=r2
         subst e
         simp only [caught,Option.some.injEq] at j3
         exact ⟨.returning,by simp,.one (stepR_end rfl),.inl ⟨rfl,j3.symm⟩⟩
        |ret =>
         obtain ⟨⟨k,rfl⟩,rfl⟩:=r2
         simp only [caught,Option.some.injEq] at j3
         exact ⟨.returning,by simp,.one (stepR_ret rfl),.inl ⟨rfl,j3.symm⟩⟩
        |xt id=>simp [caught] at j3
        |pan q =>
         obtain ⟨x,hx2,rfl⟩:=r2
         simp only [caught,Option.some.injEq] at j3
         subst j3
         exact ⟨.panicking [{ v:=x,recovered:=false }],by simp,.refl _ _,.inr ⟨x,rfl,hx2⟩⟩
       obtain ⟨md,hmd,st3,hmu⟩:=hmode
       obtain ⟨g4,w4,l1,l2,l3,l4,l5,l6,l7,l8⟩:=leave_marks (P:=P) hmd f4.inv.size ms g3 w3 { b.atR a3 K' with mode:=md } cs r5' rfl hdef r6.inv
       have hgo1:GLe g1 g4 w2' w4:=⟨fun b hb=>l6 b (f4.inv.zlt b hb) (r6.le.z b hb),fun b hb=>(l7 b (f4.inv.zlt b hb)).trans (r6.le.heap b hb),by rw [l4];exact r6.le.k⟩
       have hent:entered P c.g=true:=by simp [entered,hgn,hbody2,s4]
       have hinv:(invoke (.fn (.func c.g) (caps.toList.map a1.eval).toArray) #[]).run P w4=.ok (.enter c.g (caps.toList.map a1.eval).toArray) w4:=by
        have:=run_callFunc hent (#[] ++ (caps.toList.map a1.eval).toArray) w4
        simp only [invoke]
        rw [this]
        simp
       have st5:=step_defer (P:=P) (cs:=cs) (w:=w4) (fr:={ { b.atR a3 K' with mode:=md } with defers:=[{ target:=.fn (.func c.g) (caps.toList.map a1.eval).toArray,args:=#[] }] }) hmd rfl rfl hinv
       obtain ⟨g5,w5,y1,y2,y3,y4,y5⟩:=handler_sound hrk hcal hst hmix hgn hbody2 s1 hres s5 (caps:=evs m1 (c.ct.map .t)) (vals:=caps.toList.map a1.eval) (by
        have:∀ (m:Tm) (l:List X),(evs m l).length=l.length:=by intro m l;induction l with
         |nil=>rfl
         |cons _ _ ih=>simp [evs,ih]
        rw [this];simpa using s2) j4 j5 (h:=h2) (fun i hi=>q3 i hi) l2 (fun k cs hk=>(hRT2.gl k cs hk).mono hgo1) (hcaps.mono hgo1) { { b.atR a3 K' with mode:=md } with defers:=[] } cs (by
        rcases hmu with ⟨e1,e2⟩ | ⟨x,e1,e2⟩
        ·exact .inl ⟨e1,e2⟩
        ·exact .inr ⟨x,e1,l3 _ _ e2⟩)
       obtain ⟨yv,z2,z3⟩:=results_sound y3 ((r3.map l3).map y2) o4 k2
       refine ⟨.returned yv,w5,{ { { b.atR a3 K' with mode:=md } with defers:=[] } with mode:=.returning },⟨yv,rfl,y3.below,?_⟩,?_,rfl,rfl,rfl,rfl,fn,hfn,z2⟩
       ·have hzz:∀ b,g5.Z b→Z b ∨ w.heap.size ≤ b:=fun b hb=>by
         rcases y4 b hb with h | h
         ·rcases r6.z b (l5 b h) with h | h
          ·rcases f4.z b h with h | h
           ·exact .inl h
           ·exact .inr h
          ·exact .inr h
         ·exact .inr h
        exact ((frz_both (g2:=⟨fun _=>none,zone Z w w5⟩) y3 (fun b hb=>by
         rcases hzz b hb with h | h
         ·exact .inl h
         ·exact .inr ⟨h,y3.zlt b hb⟩) (fun i l b hl hbk=>by
         have:=y3.own i l b hl hbk
         exact .inr ⟨this.1,this.2.2⟩) deep).1 _ _ k3).val yv z3
       ·rw [henter]
        exact st1.trans (st2.trans (Steps.trans r1 (st3.trans (l1.trans (Steps.trans (.one st5) y1)))))
      ·simp at s6
     ·simp at o9
    ·simp at o9
   ·simp at o8
  ·simp at hok
 ·simp at hok
end
end Go.FI
