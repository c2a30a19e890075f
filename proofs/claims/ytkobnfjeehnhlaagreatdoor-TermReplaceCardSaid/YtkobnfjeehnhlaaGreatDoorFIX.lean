/- More rules for simp: calls that do not panic,further operations,loops over functions,regions that may panic. -/
import Derived.Test.YtkobnfjeehnhlaaGreatDoorFIW
set_option linter.all false
namespace Go.FI
noncomputable section
section
variable {T:Tab} {cal:Call} {id:Nat} {d:Option Nat} {re:List (Option (Nat × Bool) × Option Nat × Nat × Nat)} {m:Tm} {h:Heap} {nx:Nat} {x y z:X} {r:List G} {k:List I}
theorem np_l {f:Nat} {a:List FV}:np (lim T) f a h nx=@B (FV × Heap × Nat) (FV × Heap × Nat) (lim T f a h nx) ⟨fun r=>@If (Option (FV × Heap × Nat)) (isPan r.1) ⟨none,some r⟩⟩:=by
 unfold np
 show bnd _ _=bnd _ _
 congr 1
 funext r
 cases hp:isPan r.1<;>simp [chk,If,hp]
theorem pan_i {k:IntKind} {n:Int}:isPan (.int k n)=false:=rfl
theorem pan_b {b:Bool}:isPan (.bool b)=false:=rfl
theorem pan_s {b:List UInt8}:isPan (.str b)=false:=rfl
theorem pan_a {cs:List FV}:isPan (.agg cs)=false:=rfl
theorem pan_t {cs:List FV}:isPan (.tup cs)=false:=rfl
theorem pan_l {b:Bool} {cs:List FV}:isPan (.lst b cs)=false:=rfl
theorem pan_e {cs:List FV} {o:Nat}:isPan (.eptr cs o)=false:=rfl
theorem pan_p {a b c e:Nat}:isPan (.ptr a b c e)=false:=rfl
theorem pan_r {a b c e f:Nat}:isPan (.sref a b c e f)=false:=rfl
theorem pan_m {a:Nat}:isPan (.map a)=false:=rfl
theorem pan_f {a:Nat} {cs:List FV}:isPan (.fn a cs)=false:=rfl
theorem pan_c {a:Nat} {v:FV}:isPan (.ifc a v)=false:=rfl
theorem pan_n:isPan .nilp=false:=rfl
theorem pan_nf:isPan .nilf=false:=rfl
theorem pan_nm:isPan .nilm=false:=rfl
theorem pan_ni:isPan .nili=false:=rfl
theorem pan_pan {v:FV}:isPan (.pan v)=true:=rfl
def snV (n:Bool):FV→Option FV
 |.lst _ (_::_)=>some (.bool n)
 |.sref _ _ _ _ (_ + 1)=>some (.bool n)
 |_=>none
theorem r_sn {n:Bool}:rops cal id (⟨d,none,.sn n x,[]⟩::r) m h nx=@B FV (Tm × Heap × Nat) (snV n (ev m x)) ⟨fun v=>rops cal (id + 1) r (put m d v) h nx⟩:=rops_v rfl
theorem snV_l {n e:Bool} {v:FV} {vs:List FV}:snV n (.lst e (v::vs))=some (.bool n):=rfl
def xaV (n es:Nat) (ag:Option Nat):FV→FV→Option FV
 |.agg cs,.int _ k=>@Ck FV (0 ≤ k∧k < n) ⟨fun _=>cellsAt cs ag (k.toNat * es)⟩
 |_,_=>none
theorem xaV_a {n es:Nat} {ag:Option Nat} {cs:List FV} {k:IntKind} {j:Int}:xaV n es ag (.agg cs) (.int k j)=@Ck FV (0 ≤ j∧j < n) ⟨fun _=>cellsAt cs ag (j.toNat * es)⟩:=rfl
theorem r_xa {n es:Nat} {ag:Option Nat}:rops cal id (⟨d,none,.xa n es ag x y,[]⟩::r) m h nx=@B FV (Tm × Heap × Nat) (xaV n es ag (ev m x) (ev m y)) ⟨fun v=>rops cal (id + 1) r (put m d v) h nx⟩:=rops_v (by
 show bnd (opv h m (.xa n es ag x y)) _=_
 congr 1
 simp only [opv]
 cases ev m x<;>(try rfl)<;>cases ev m y<;>(try rfl)
 simp only [xaV,Ck_chk])
theorem aaV_e {n es o:Nat} {cs:List FV} {k:IntKind} {j:Int}:aaV n es (.eptr cs o) (.int k j)=@Ck FV (0 ≤ j∧j < n) ⟨fun _=>some (.eptr cs (o + j.toNat * es))⟩:=rfl
theorem aaV_p {n es i s l o:Nat} {k:IntKind} {j:Int}:aaV n es (.ptr i s l o) (.int k j)=@Ck FV (0 ≤ j∧j < n) ⟨fun _=>some (.ptr i s l (o + j.toNat * es))⟩:=rfl
def csV (h:Heap) (v:FV):Option FV:=@B (List FV) FV (sliceElems h v) ⟨fun xs=>@B (List UInt8) FV (bytesV xs) ⟨fun s=>some (.str s)⟩⟩
theorem r_cs:rops cal id (⟨d,none,.cs x,[]⟩::r) m h nx=@B FV (Tm × Heap × Nat) (csV h (ev m x)) ⟨fun v=>rops cal (id + 1) r (put m d v) h nx⟩:=rops_v rfl
theorem csV_l {e:Bool} {xs:List FV}:csV h (.lst e xs)=@B (List UInt8) FV (bytesV xs) ⟨fun s=>some (.str s)⟩:=rfl
theorem csV_r {es i st off l:Nat}:csV h (.sref es i st off l)=@B (List FV) FV (elems h (.sref es i st off l)) ⟨fun xs=>@B (List UInt8) FV (bytesV xs) ⟨fun s=>some (.str s)⟩⟩:=rfl
def taV (t:Nat) (zv:FV):FV→Option FV
 |.ifc u v=>some (if u=t then .tup [v,.bool true] else .tup [zv,.bool false])
 |.nili=>some (.tup [zv,.bool false])
 |_=>none
theorem r_ta {t:Nat} {zv:FV}:rops cal id (⟨d,none,.ta t zv x,[]⟩::r) m h nx=@B FV (Tm × Heap × Nat) (taV t zv (ev m x)) ⟨fun v=>rops cal (id + 1) r (put m d v) h nx⟩:=rops_v rfl
theorem taV_i {t u:Nat} {zv v:FV}:taV t zv (.ifc u v)=some (if u=t then .tup [v,.bool true] else .tup [zv,.bool false]):=rfl
theorem taV_n {t:Nat} {zv:FV}:taV t zv .nili=some (.tup [zv,.bool false]):=rfl
def isnV (n:Bool):FV→Option FV
 |.ifc _ _=>some (.bool n)
 |.nili=>some (.bool !n)
 |_=>none
theorem r_isn {n:Bool}:rops cal id (⟨d,none,.isn n x,[]⟩::r) m h nx=@B FV (Tm × Heap × Nat) (isnV n (ev m x)) ⟨fun v=>rops cal (id + 1) r (put m d v) h nx⟩:=rops_v rfl
theorem isnV_i {n:Bool} {u:Nat} {v:FV}:isnV n (.ifc u v)=some (.bool n):=rfl
theorem isnV_n {n:Bool}:isnV n .nili=some (.bool !n):=rfl
def ibV:FV→FV→Option FV
 |.str s,.int .u8 n=>some (.int .i64 (idxB s n.toNat.toUInt8))
 |_,_=>none
theorem r_ib:rops cal id (⟨d,none,.ib x y,[]⟩::r) m h nx=@B FV (Tm × Heap × Nat) (ibV (ev m x) (ev m y)) ⟨fun v=>rops cal (id + 1) r (put m d v) h nx⟩:=rops_v rfl
theorem ibV_s {s:List UInt8} {n:Int}:ibV (.str s) (.int .u8 n)=some (.int .i64 (idxB s n.toNat.toUInt8)):=rfl
theorem lim_iso_any {f:Nat} {d:Fn} {args:List FV} {r:FV} {h0 h':Heap} {nx0 nx':Nat} (ht:tget T f=some (.fn d)) (hm:d.mode=.iso) (hl:lim T f args h0 nx0=some (r,h',nx')) (hlt:f < RB:=by decide):∀ h nx,lim T f args h nx=some (r,h,nx):=by
 intro h nx
 rw [lim_fn ht hlt] at hl ⊢
 unfold enterWith at hl ⊢
 rw [hm] at hl ⊢
 simp only at hl ⊢
 obtain ⟨h1,hl⟩:=chk_some hl
 obtain ⟨h2,hl⟩:=chk_some hl
 rw [chk,if_pos h1,chk,if_pos h2]
 obtain ⟨x,h3,hl⟩:=bnd_some hl
 obtain ⟨v,h4,hl⟩:=bnd_some hl
 obtain ⟨r',h5,hl⟩:=bnd_some hl
 cases hl
 exact bnd_mk h3 (bnd_mk h4 (bnd_mk h5 rfl))
def lkR (zv:FV):Option FV→FV
 |some v=>.tup [v,.bool true]
 |none=>.tup [zv,.bool false]
def lkM (kt:Nat) (zv:FV) (ok:Bool) (kv:FV):Option Obj→Option FV
 |some (.mp en)=>@B (Option FV) FV (find kt kv en) ⟨fun r=>some (if ok=true then lkR zv r else r.getD zv)⟩
 |_=>none
theorem lookup_m {kt id:Nat} {zv kv:FV} {ok:Bool}:lookup h kt zv ok kv (.map id)=lkM kt zv ok kv (hget h id):=by
 simp only [lookup,lkM]
 cases hget h id with
 |none=>rfl
 |some o =>
  cases o with
  |mp en =>
   simp only [B]
   cases find kt kv en with
   |none=>rfl
   |some r=>cases r<;>cases ok<;>rfl
  |_=>rfl
theorem lkM_t {kt:Nat} {zv kv:FV} {en:List (FV × FV)}:lkM kt zv true kv (some (.mp en))=@B (Option FV) FV (find kt kv en) ⟨fun r=>some (lkR zv r)⟩:=rfl
theorem lkM_f {kt:Nat} {zv kv:FV} {en:List (FV × FV)}:lkM kt zv false kv (some (.mp en))=@B (Option FV) FV (find kt kv en) ⟨fun r=>some (r.getD zv)⟩:=rfl
theorem lkR_s {zv v:FV}:lkR zv (some v)=.tup [v,.bool true]:=rfl
theorem lkR_n {zv:FV}:lkR zv none=.tup [zv,.bool false]:=rfl
def muM (h:Heap) (i kt:Nat) (kv v:FV):Option Obj→Option Heap
 |some (.mp en)=>@B (List (FV × FV)) Heap (update kt kv v en) ⟨fun en'=>some (hset h i (.mp en'))⟩
 |_=>none
theorem muV_m {kt i:Nat} {kv v:FV}:muV h kt kv v (.map i)=muM h i kt kv v (hget h i):=by
 simp only [muV,muM]
 cases hget h i with
 |none=>rfl
 |some o=>cases o<;>rfl
theorem muM_m {kt i:Nat} {kv v:FV} {en:List (FV × FV)}:muM h i kt kv v (some (.mp en))=@B (List (FV × FV)) Heap (update kt kv v en) ⟨fun en'=>some (hset h i (.mp en'))⟩:=rfl
def mapLenO:Option Obj→Option FV
 |some (.mp en)=>some (.int .i64 en.length)
 |_=>none
theorem mapLen_m {i:Nat}:mapLen h (.map i)=mapLenO (hget h i):=by
 simp only [mapLen,mapLenO]
 cases hget h i with
 |none=>rfl
 |some o=>cases o<;>rfl
theorem mapLenO_m {en:List (FV × FV)}:mapLenO (some (.mp en))=some (.int .i64 en.length):=rfl
theorem cells_m {i:Nat}:(FV.map i).cells=[.map i]:=rfl
theorem ok_m {i:Nat}:(FV.map i).ok=true:=rfl
theorem one_m {i:Nat}:(FV.map i).one=true:=rfl
theorem cells_nm:FV.nilm.cells=[.nilm]:=rfl
theorem ok_nm:FV.nilm.ok=true:=rfl
theorem one_nm:FV.nilm.one=true:=rfl
theorem resh_nm {c:FV} {cs:List FV}:reshape .nilm (c::cs)=c:=rfl
theorem resh_m {i:Nat} {c:FV} {cs:List FV}:reshape (.map i) (c::cs)=c:=rfl
def fnV:FV→Option (Nat × List FV)
 |.fn q caps=>some (q,caps)
 |_=>none
theorem fnV_f {q:Nat} {caps:List FV}:fnV (.fn q caps)=some (q,caps):=rfl
theorem w_rf {f:Nat} {x:X} {ct:List Nat} :
  runs T (.code (.rf f x ct)::k) m h nx=@B (Nat × List FV) Out (fnV (ev m x)) ⟨fun p=>@B (FV × Heap × Nat) Out (np (lim T) p.1 (.yl f nx (evs m (ct.map .t))::p.2) ((nx,.lp 0 0)::h) (nx + 1)) ⟨rfK T k m nx⟩⟩:=by
 generalize hx:ev m x=v
 cases v with
 |fn q caps=>exact runs_rf hx
 |_=>exact runs_none fun n=>by simp only [run,hx]
theorem fz_fn {n f:Nat} {cs:List FV} (hl:cs.length ≤ n):frz h (n + 1) (.fn f cs)=@B (List FV) FV (frzs h n cs) ⟨fun r=>some (.fn f r)⟩:=by
 cases hp:pure_ (.fn f cs) with
 |false=>simp only [frz,hp,Bool.false_eq_true,if_false];rfl
 |true=>rw [frz_pure hp,frzs_pure (by simpa [pure_] using hp) hl];rfl
theorem fz_ptr {n i s j o:Nat}:frz h (n + 1) (.ptr i s j o)=@B FV FV (elemAt h i s j) ⟨fun e=>@B (List FV) FV (frzs h n e.cells) ⟨fun r=>@Ck FV (r.length ≠ 0) ⟨fun _=>some (.eptr r o)⟩⟩⟩:=by
 simp only [frz,pure_,Bool.false_eq_true,if_false]
 show bnd _ _=bnd _ _
 congr 1;funext e
 show bnd _ _=bnd _ _
 congr 1;funext r
 exact Ck_chk
theorem elemAt_r {i s j es:Nat} {xs:List FV} (hg:hget h i=some (.row es xs)):elemAt h i s j=@Ck FV (xs.length=s) ⟨fun _=>xs[j]?⟩:=by
 simp only [elemAt,hg];exact Ck_chk
theorem Ok_call {γ δ:Type} {f:Nat} {a:List FV} {F:(FV × Heap × Nat)→Option γ} {G:γ→Option δ} {ps:FV × Heap × Nat→Prop} {q:Post δ} (hl:∃ r,lim T f a h nx=some r∧ps r) (hk:∀ r,ps r→isPan r.1=false∧@Ok δ (@B γ δ (F r) ⟨G⟩) q) :
  @Ok δ (@B γ δ (@B (FV × Heap × Nat) γ (@B (FV × Heap × Nat) (FV × Heap × Nat) (lim T f a h nx) ⟨fun r=>@If (Option (FV × Heap × Nat)) (isPan r.1) ⟨none,some r⟩⟩) ⟨F⟩) ⟨G⟩) q:=by
 obtain ⟨r,h1,h2⟩:=hl
 obtain ⟨h3,h4⟩:=hk r h2
 rw [h1,B_some,h3,If_f,B_some];exact h4
theorem Ok_call1 {δ:Type} {f:Nat} {a:List FV} {F:(FV × Heap × Nat)→Option δ} {ps:FV × Heap × Nat→Prop} {q:Post δ} (hl:∃ r,lim T f a h nx=some r∧ps r) (hk:∀ r,ps r→isPan r.1=false∧@Ok δ (F r) q) :
  @Ok δ (@B (FV × Heap × Nat) δ (@B (FV × Heap × Nat) (FV × Heap × Nat) (lim T f a h nx) ⟨fun r=>@If (Option (FV × Heap × Nat)) (isPan r.1) ⟨none,some r⟩⟩) ⟨F⟩) q:=by
 obtain ⟨r,h1,h2⟩:=hl
 obtain ⟨h3,h4⟩:=hk r h2
 rw [h1,B_some,h3,If_f,B_some];exact h4
def rfV (T:Tab) (k:List I) (m:Tm) (nx:Nat) (h':Heap) (nx':Nat):Option Obj→Option Out
 |some (.lp st jp)=>@Ck Out (st ≠ 1) ⟨fun _=>runs T (jpI jp k) m (hset h' nx (.lp 3 jp)) nx'⟩
 |_=>none
theorem rfK_V {v:FV} {h':Heap} {nx':Nat}:rfK T k m nx (v,h',nx')=rfV T k m nx h' nx' (hget h' nx):=by
 simp only [rfK,rfV]
 cases hget h' nx with
 |none=>rfl
 |some o=>cases o<;>first | rfl | exact Ck_chk
theorem rfV_0 {h':Heap} {nx':Nat}:rfV T k m nx h' nx' (some (.lp 0 0))=runs T k m (hset h' nx (.lp 3 0)) nx':=Ck_pos (by decide)
theorem rfV_1 {h':Heap} {nx':Nat}:rfV T k m nx h' nx' (some (.lp 2 1))=runs T (.code .rt::k) m (hset h' nx (.lp 3 1)) nx':=Ck_pos (by decide)
theorem rfV_2 {h':Heap} {nx' e:Nat}:rfV T k m nx h' nx' (some (.lp 2 (e + 2)))=runs T (.code (.xt e)::k) m (hset h' nx (.lp 3 (e + 2))) nx':=Ck_pos (by decide)
def begV (T:Tab) (k:List I) (m:Tm) (h:Heap) (nx id:Nat):Option Obj→Option Out
 |some (.lp 0 jp)=>runs T k m (hset h id (.lp 1 jp)) nx
 |_=>none
theorem w_beg {id:Nat}:runs T (.beg id::k) m h nx=begV T k m h nx id (hget h id):=by
 rw [runs_beg]
 unfold begV
 cases hget h id with
 |none=>rfl
 |some o=>cases o<;>rfl
theorem begV_l {id jp:Nat}:begV T k m h nx id (some (.lp 0 jp))=runs T k m (hset h id (.lp 1 jp)) nx:=rfl
theorem lim_round {f:Nat} {d:Rd} {g id jp:Nat} {caps xs:List FV} (ht:tget T f=some (.rd d)) (hx:xs.length=d.ps.length) (hc:caps.length=d.ct.length) (hg:hget h id=some (.lp 0 jp)) (hge:RB ≤ f:=by decide) :
  lim T f (.yl g id caps::xs) h nx=@B Out (FV × Heap × Nat) (runs T [.code d.asg,.beg id,.code d.body] (zipTm d.ps xs ++ zipTm d.ct caps) h nx) ⟨leave id⟩:=by
 rw [lim_rd ht hge]
 simp only [roundWith]
 rw [chk,if_pos ⟨hx,hc,by simp [isLp,hg]⟩]
 rfl
def lvV (id:Nat) (h:Heap) (nx:Nat) (v:FV) (o:Obj):Option Obj→Option (FV × Heap × Nat)
 |some (.lp _ _)=>some (v,hset h id o,nx)
 |_=>none
theorem leave_fin:leave id (.fin,m,h,nx)=lvV id h nx (.bool true) (.lp 0 0) (hget h id):=by
 simp only [leave,lvV]
 cases hget h id with
 |none=>rfl
 |some o=>cases o<;>rfl
theorem leave_ret:leave id (.ret,m,h,nx)=lvV id h nx (.bool false) (.lp 2 1) (hget h id):=by
 simp only [leave,lvV]
 cases hget h id with
 |none=>rfl
 |some o=>cases o<;>rfl
theorem leave_xt {e:Nat}:leave id (.xt e,m,h,nx)=lvV id h nx (.bool false) (.lp 2 (e + 2)) (hget h id):=by
 simp only [leave,lvV]
 cases hget h id with
 |none=>rfl
 |some o=>cases o<;>rfl
theorem lvV_l {v:FV} {o:Obj} {a b:Nat}:lvV id h nx v o (some (.lp a b))=some (v,hset h id o,nx):=rfl
theorem w_xe {e:Nat}:runs T [.code (.xt e)] m h nx=some (.xt e,m,h,nx):=by rw [runs_xt];rfl
theorem zip_n {ts:List Nat}:zipTm ts []=[]:=by cases ts<;>rfl
theorem zip_m {vs:List FV}:zipTm [] vs=[]:=rfl
theorem zip_c {t:Nat} {ts:List Nat} {v:FV} {vs:List FV}:zipTm (t::ts) (v::vs)=(t,v)::zipTm ts vs:=rfl
def rqK (T:Tab) (keep:List Nat) (k:List I) (x:Option FV × Tm × Heap × Nat):Option Out :=
 match x.1 with
 |none=>runs T k (keepOf x.2.1 keep) x.2.2.1 x.2.2.2
 |some v=>some (.pan v,x.2.1,x.2.2.1,x.2.2.2)
theorem w_rq {gs:List G} {keep:List Nat}:runs T (.code (.rq gs keep)::k) m h nx=@B (Option FV × Tm × Heap × Nat) Out (ropsP (lim T) nx gs m h (nx + gs.length)) ⟨rqK T keep k⟩:=by
 cases hl:ropsP (lim T) nx gs m h (nx + gs.length) with
 |none=>exact runs_none fun n=>by simp only [run,hl,bnd]
 |some x =>
  obtain ⟨o,y⟩:=x
  cases o with
  |none=>exact runs_step fun n=>by simp only [run,hl,bnd]
  |some v=>exact runs_end fun n=>by simp only [run,hl,bnd]
theorem rqK_n {keep:List Nat}:rqK T keep k (none,m,h,nx)=runs T k (keepOf m keep) h nx:=rfl
theorem rqK_s {keep:List Nat} {v:FV}:rqK T keep k (some v,m,h,nx)=some (.pan v,m,h,nx):=rfl
theorem p_nil:ropsP cal id [] m h nx=some (none,m,h,nx):=rfl
def pcK (cal:Call) (id:Nat) (d:Option Nat) (r:List G) (m:Tm) (y:FV × Heap × Nat):Option (Option FV × Tm × Heap × Nat) :=
 match y.1 with
 |.pan v=>some (some v,m,y.2.1,y.2.2)
 |v=>ropsP cal (id + 1) r (put m d v) y.2.1 y.2.2
theorem p_cl {f:Nat} {as:List X}:ropsP cal id (⟨d,none,.cl f as,re⟩::r) m h nx=@B (FV × Heap × Nat) (Option FV × Tm × Heap × Nat) (cal f (evs m as) h nx) ⟨pcK cal id d r m⟩:=by
 have e:ropsP cal id (⟨d,none,.cl f as,re⟩::r) m h nx=bnd (cal f (evs m as) h nx) fun y=>match y.1 with
     |.pan v=>some (some v,m,y.2.1,y.2.2)
     |v=>ropsP cal (id + 1) r (put m d v) y.2.1 y.2.2:=rfl
 rw [e]
 cases cal f (evs m as) h nx<;>rfl
theorem pcK_p {v:FV} {h':Heap} {nx':Nat}:pcK cal id d r m (.pan v,h',nx')=some (some v,m,h',nx'):=rfl
theorem pcK_v {v:FV} {h':Heap} {nx':Nat} (hv:isPan v=false):pcK cal id d r m (v,h',nx')=ropsP cal (id + 1) r (put m d v) h' nx':=by
 cases v<;>first | rfl | (simp [isPan] at hv)
def pnV:FV→Option FV
 |.ifc t v=>some (.ifc t v)
 |_=>none
theorem p_pn:ropsP cal id (⟨d,none,.pn x,re⟩::r) m h nx=@B FV (Option FV × Tm × Heap × Nat) (pnV (ev m x)) ⟨fun v=>some (some v,m,h,nx)⟩:=by
 have e:ropsP cal id (⟨d,none,.pn x,re⟩::r) m h nx=match ev m x with
     |.ifc t v=>some (some (.ifc t v),m,h,nx)
     |_=>none:=rfl
 rw [e]
 cases ev m x<;>rfl
theorem pnV_i {t:Nat} {v:FV}:pnV (.ifc t v)=some (.ifc t v):=rfl
theorem p_gd {op:O} {t:Nat} {c:Bool}:ropsP cal id (⟨d,some (t,c),op,re⟩::r) m h nx =
  @B Bool (Option FV × Tm × Heap × Nat) (wantB (gt m t) c) ⟨fun b=>@If (Option (Option FV × Tm × Heap × Nat)) b ⟨ropsP cal id (⟨d,none,op,re⟩::r) m h nx,ropsP cal (id + 1) r (put m d (.tup [])) h nx⟩⟩:=by
 rw [← wanted_B]
 simp only [ropsP]
 cases wanted m (some (t,c)) with
 |none=>rfl
 |some b=>cases b<;>rfl
end
theorem EV5:type_of% (And.intro @np_l <| And.intro @pan_i <| And.intro @pan_b <| And.intro @pan_s <| And.intro @pan_a <| And.intro @pan_t <| And.intro @pan_l <| And.intro @pan_e <| And.intro @pan_p <| And.intro @pan_r <| And.intro @pan_m <| And.intro @pan_f <| And.intro @pan_c <| And.intro @pan_n <| And.intro @pan_nf <| And.intro @pan_nm <| And.intro @pan_ni <| And.intro @pan_pan <|
 And.intro @r_sn <| And.intro @snV_l <| And.intro @r_xa <| And.intro @xaV_a <| And.intro @r_cs <| And.intro @csV_l <| And.intro @csV_r <| And.intro @r_ta <| And.intro @taV_i <| And.intro @taV_n <| And.intro @r_isn <| And.intro @isnV_i <| And.intro @isnV_n <| And.intro @r_ib <| And.intro @ibV_s <|
 And.intro @cw_y <| And.intro @w_rf <| And.intro @fnV_f <| And.intro @fz_fn <| And.intro @fz_ptr <| And.intro @w_rq <| And.intro @rqK_n <| And.intro @rqK_s <| And.intro @p_nil <| And.intro @p_cl <| And.intro @pcK_p <| And.intro @pcK_v <| And.intro @p_pn <| And.intro @pnV_i <| @p_gd):=And.intro @np_l <| And.intro @pan_i <| And.intro @pan_b <| And.intro @pan_s <| And.intro @pan_a <| And.intro @pan_t <| And.intro @pan_l <| And.intro @pan_e <| And.intro @pan_p <| And.intro @pan_r <| And.intro @pan_m <| And.intro @pan_f <| And.intro @pan_c <| And.intro @pan_n <| And.intro @pan_nf <| And.intro @pan_nm <| And.intro @pan_ni <| And.intro @pan_pan <|
 And.intro @r_sn <| And.intro @snV_l <| And.intro @r_xa <| And.intro @xaV_a <| And.intro @r_cs <| And.intro @csV_l <| And.intro @csV_r <| And.intro @r_ta <| And.intro @taV_i <| And.intro @taV_n <| And.intro @r_isn <| And.intro @isnV_i <| And.intro @isnV_n <| And.intro @r_ib <| And.intro @ibV_s <|
 And.intro @cw_y <| And.intro @w_rf <| And.intro @fnV_f <| And.intro @fz_fn <| And.intro @fz_ptr <| And.intro @w_rq <| And.intro @rqK_n <| And.intro @rqK_s <| And.intro @p_nil <| And.intro @p_cl <| And.intro @pcK_p <| And.intro @pcK_v <| And.intro @p_pn <| And.intro @pnV_i <| @p_gd
theorem EV6:type_of% (And.intro @lookup_m <| And.intro @lkM_t <| And.intro @lkM_f <| And.intro @lkR_s <| And.intro @lkR_n <| And.intro @muV_m <| And.intro @muM_m <| And.intro @mapLen_m <| And.intro @mapLenO_m <| And.intro @cells_m <| And.intro @ok_m <| And.intro @one_m <| And.intro @cells_nm <| And.intro @ok_nm <| And.intro @one_nm <| And.intro @resh_nm <| And.intro @resh_m <| And.intro @aaV_e <| And.intro @aaV_p <| And.intro @rfK_V <| And.intro @rfV_0 <| And.intro @rfV_1 <| And.intro @rfV_2 <| And.intro @w_beg <| And.intro @begV_l <| And.intro @leave_fin <| And.intro @leave_ret <| And.intro @leave_xt <| And.intro @lvV_l <| And.intro @w_xe <| And.intro @zip_n <| And.intro @zip_m <| @zip_c):=And.intro @lookup_m <| And.intro @lkM_t <| And.intro @lkM_f <| And.intro @lkR_s <| And.intro @lkR_n <| And.intro @muV_m <| And.intro @muM_m <| And.intro @mapLen_m <| And.intro @mapLenO_m <| And.intro @cells_m <| And.intro @ok_m <| And.intro @one_m <| And.intro @cells_nm <| And.intro @ok_nm <| And.intro @one_nm <| And.intro @resh_nm <| And.intro @resh_m <| And.intro @aaV_e <| And.intro @aaV_p <| And.intro @rfK_V <| And.intro @rfV_0 <| And.intro @rfV_1 <| And.intro @rfV_2 <| And.intro @w_beg <| And.intro @begV_l <| And.intro @leave_fin <| And.intro @leave_ret <| And.intro @leave_xt <| And.intro @lvV_l <| And.intro @w_xe <| And.intro @zip_n <| And.intro @zip_m <| @zip_c
end
end Go.FI
