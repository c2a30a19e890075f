/- Parts of the proof, one behind the other. -/
import Derived.Test.YtjmppkmacaeahaaGreatDoorSF3
import Derived.Sort.LotA
import Derived.Sort.LotB
import Derived.Sort.LotC
import Derived.Sort.LotD3
set_option linter.all false
namespace Go.FI
noncomputable section
section
variable {T:Tab} {cal:Call} {id:Nat} {d:Option Nat} {re:List (Option (Nat × Bool) × Option Nat × Nat × Nat)} {m:Tm} {h:Heap} {nx:Nat} {x y z:X} {r:List G} {k:List I}
theorem np_l {f:Nat} {a:List FV}:np (lim T) f a h nx=@B (FV × Heap × Nat) (FV × Heap × Nat) (lim T f a h nx) ⟨fun r=>@If (Option (FV × Heap × Nat)) (isPan r.1) ⟨none,some r⟩⟩:=by
 unfold np
 show bnd _ _=bnd _ _
 congr 1
 funext r
 cases hp:isPan r.1<;>simp [chk,If,hp]
theorem pan_i {k:IntKind} {n:Int}:isPan (.int k n)=false:=rfl
theorem pan_b {b:Bool}:isPan (.bool b)=false:=rfl
theorem pan_s {b:List UInt8}:isPan (.str b)=false:=rfl
theorem pan_a {cs:List FV}:isPan (.agg cs)=false:=rfl
theorem pan_t {cs:List FV}:isPan (.tup cs)=false:=rfl
theorem pan_l {b:Bool} {cs:List FV}:isPan (.lst b cs)=false:=rfl
theorem pan_e {cs:List FV} {o:Nat}:isPan (.eptr cs o)=false:=rfl
theorem pan_p {a b c e:Nat}:isPan (.ptr a b c e)=false:=rfl
theorem pan_r {a b c e f:Nat}:isPan (.sref a b c e f)=false:=rfl
theorem pan_m {a:Nat}:isPan (.map a)=false:=rfl
theorem pan_f {a:Nat} {cs:List FV}:isPan (.fn a cs)=false:=rfl
theorem pan_c {a:Nat} {v:FV}:isPan (.ifc a v)=false:=rfl
theorem pan_n:isPan .nilp=false:=rfl
theorem pan_nf:isPan .nilf=false:=rfl
theorem pan_nm:isPan .nilm=false:=rfl
theorem pan_ni:isPan .nili=false:=rfl
theorem pan_pan {v:FV}:isPan (.pan v)=true:=rfl
def snV (n:Bool):FV→Option FV
 |.lst _ (_::_)=>some (.bool n)
 |.sref _ _ _ _ (_ + 1)=>some (.bool n)
 |_=>none
theorem r_sn {n:Bool}:rops cal id (⟨d,none,.sn n x,[]⟩::r) m h nx=@B FV (Tm × Heap × Nat) (snV n (ev m x)) ⟨fun v=>rops cal (id + 1) r (put m d v) h nx⟩:=rops_v rfl
theorem snV_l {n e:Bool} {v:FV} {vs:List FV}:snV n (.lst e (v::vs))=some (.bool n):=rfl
def xaV (n es:Nat) (ag:Option Nat):FV→FV→Option FV
 |.agg cs,.int _ k=>@Ck FV (0 ≤ k∧k < n) ⟨fun _=>cellsAt cs ag (k.toNat * es)⟩
 |_,_=>none
theorem xaV_a {n es:Nat} {ag:Option Nat} {cs:List FV} {k:IntKind} {j:Int}:xaV n es ag (.agg cs) (.int k j)=@Ck FV (0 ≤ j∧j < n) ⟨fun _=>cellsAt cs ag (j.toNat * es)⟩:=rfl
theorem r_xa {n es:Nat} {ag:Option Nat}:rops cal id (⟨d,none,.xa n es ag x y,[]⟩::r) m h nx=@B FV (Tm × Heap × Nat) (xaV n es ag (ev m x) (ev m y)) ⟨fun v=>rops cal (id + 1) r (put m d v) h nx⟩:=rops_v (by
 show bnd (opv h m (.xa n es ag x y)) _=_
 congr 1
 simp only [opv]
 cases ev m x<;>(try rfl)<;>cases ev m y<;>(try rfl)
 simp only [xaV,Ck_chk])
theorem aaV_e {n es o:Nat} {cs:List FV} {k:IntKind} {j:Int}:aaV n es (.eptr cs o) (.int k j)=@Ck FV (0 ≤ j∧j < n) ⟨fun _=>some (.eptr cs (o + j.toNat * es))⟩:=rfl
theorem aaV_p {n es i s l o:Nat} {k:IntKind} {j:Int}:aaV n es (.ptr i s l o) (.int k j)=@Ck FV (0 ≤ j∧j < n) ⟨fun _=>some (.ptr i s l (o + j.toNat * es))⟩:=rfl
def csV (h:Heap) (v:FV):Option FV:=@B (List FV) FV (sliceElems h v) ⟨fun xs=>@B (List UInt8) FV (bytesV xs) ⟨fun s=>some (.str s)⟩⟩
theorem r_cs:rops cal id (⟨d,none,.cs x,[]⟩::r) m h nx=@B FV (Tm × Heap × Nat) (csV h (ev m x)) ⟨fun v=>rops cal (id + 1) r (put m d v) h nx⟩:=rops_v rfl
theorem csV_l {e:Bool} {xs:List FV}:csV h (.lst e xs)=@B (List UInt8) FV (bytesV xs) ⟨fun s=>some (.str s)⟩:=rfl
theorem csV_r {es i st off l:Nat}:csV h (.sref es i st off l)=@B (List FV) FV (elems h (.sref es i st off l)) ⟨fun xs=>@B (List UInt8) FV (bytesV xs) ⟨fun s=>some (.str s)⟩⟩:=rfl
def taV (t:Nat) (zv:FV):FV→Option FV
 |.ifc u v=>some (if u=t then .tup [v,.bool true] else .tup [zv,.bool false])
 |.nili=>some (.tup [zv,.bool false])
 |_=>none
theorem r_ta {t:Nat} {zv:FV}:rops cal id (⟨d,none,.ta t zv x,[]⟩::r) m h nx=@B FV (Tm × Heap × Nat) (taV t zv (ev m x)) ⟨fun v=>rops cal (id + 1) r (put m d v) h nx⟩:=rops_v rfl
theorem taV_i {t u:Nat} {zv v:FV}:taV t zv (.ifc u v)=some (if u=t then .tup [v,.bool true] else .tup [zv,.bool false]):=rfl
theorem taV_n {t:Nat} {zv:FV}:taV t zv .nili=some (.tup [zv,.bool false]):=rfl
def isnV (n:Bool):FV→Option FV
 |.ifc _ _=>some (.bool n)
 |.nili=>some (.bool !n)
 |_=>none
theorem r_isn {n:Bool}:rops cal id (⟨d,none,.isn n x,[]⟩::r) m h nx=@B FV (Tm × Heap × Nat) (isnV n (ev m x)) ⟨fun v=>rops cal (id + 1) r (put m d v) h nx⟩:=rops_v rfl
theorem isnV_i {n:Bool} {u:Nat} {v:FV}:isnV n (.ifc u v)=some (.bool n):=rfl
theorem isnV_n {n:Bool}:isnV n .nili=some (.bool !n):=rfl
def ibV:FV→FV→Option FV
 |.str s,.int .u8 n=>some (.int .i64 (idxB s n.toNat.toUInt8))
 |_,_=>none
theorem r_ib:rops cal id (⟨d,none,.ib x y,[]⟩::r) m h nx=@B FV (Tm × Heap × Nat) (ibV (ev m x) (ev m y)) ⟨fun v=>rops cal (id + 1) r (put m d v) h nx⟩:=rops_v rfl
theorem ibV_s {s:List UInt8} {n:Int}:ibV (.str s) (.int .u8 n)=some (.int .i64 (idxB s n.toNat.toUInt8)):=rfl
theorem lim_iso_any {f:Nat} {d:Fn} {args:List FV} {r:FV} {h0 h':Heap} {nx0 nx':Nat} (ht:tget T f=some (.fn d)) (hm:d.mode=.iso) (hl:lim T f args h0 nx0=some (r,h',nx')) (hlt:f < RB:=by decide):∀ h nx,lim T f args h nx=some (r,h,nx):=by
 intro h nx
 rw [lim_fn ht hlt] at hl ⊢
 unfold enterWith at hl ⊢
 rw [hm] at hl ⊢
 simp only at hl ⊢
 obtain ⟨h1,hl⟩:=chk_some hl
 obtain ⟨h2,hl⟩:=chk_some hl
 rw [chk,if_pos h1,chk,if_pos h2]
 obtain ⟨x,h3,hl⟩:=bnd_some hl
 obtain ⟨v,h4,hl⟩:=bnd_some hl
 obtain ⟨r',h5,hl⟩:=bnd_some hl
 cases hl
 exact bnd_mk h3 (bnd_mk h4 (bnd_mk h5 rfl))
def lkR (zv:FV):Option FV→FV
 |some v=>.tup [v,.bool true]
 |none=>.tup [zv,.bool false]
def lkM (kt:Nat) (zv:FV) (ok:Bool) (kv:FV):Option Obj→Option FV
 |some (.mp en)=>@B (Option FV) FV (find kt kv en) ⟨fun r=>some (if ok=true then lkR zv r else r.getD zv)⟩
 |_=>none
theorem lookup_m {kt id:Nat} {zv kv:FV} {ok:Bool}:lookup h kt zv ok kv (.map id)=lkM kt zv ok kv (hget h id):=by
 simp only [lookup,lkM]
 cases hget h id with
 |none=>rfl
 |some o =>
  cases o with
  |mp en =>
   simp only [B]
   cases find kt kv en with
   |none=>rfl
   |some r=>cases r<;>cases ok<;>rfl
  |_=>rfl
theorem lkM_t {kt:Nat} {zv kv:FV} {en:List (FV × FV)}:lkM kt zv true kv (some (.mp en))=@B (Option FV) FV (find kt kv en) ⟨fun r=>some (lkR zv r)⟩:=rfl
theorem lkM_f {kt:Nat} {zv kv:FV} {en:List (FV × FV)}:lkM kt zv false kv (some (.mp en))=@B (Option FV) FV (find kt kv en) ⟨fun r=>some (r.getD zv)⟩:=rfl
theorem lkR_s {zv v:FV}:lkR zv (some v)=.tup [v,.bool true]:=rfl
theorem lkR_n {zv:FV}:lkR zv none=.tup [zv,.bool false]:=rfl
def muM (h:Heap) (i kt:Nat) (kv v:FV):Option Obj→Option Heap
 |some (.mp en)=>@B (List (FV × FV)) Heap (update kt kv v en) ⟨fun en'=>some (hset h i (.mp en'))⟩
 |_=>none
theorem muV_m {kt i:Nat} {kv v:FV}:muV h kt kv v (.map i)=muM h i kt kv v (hget h i):=by
 simp only [muV,muM]
 cases hget h i with
 |none=>rfl
 |some o=>cases o<;>rfl
theorem muM_m {kt i:Nat} {kv v:FV} {en:List (FV × FV)}:muM h i kt kv v (some (.mp en))=@B (List (FV × FV)) Heap (update kt kv v en) ⟨fun en'=>some (hset h i (.mp en'))⟩:=rfl
def mapLenO:Option Obj→Option FV
 |some (.mp en)=>some (.int .i64 en.length)
 |_=>none
theorem mapLen_m {i:Nat}:mapLen h (.map i)=mapLenO (hget h i):=by
 simp only [mapLen,mapLenO]
 cases hget h i with
 |none=>rfl
 |some o=>cases o<;>rfl
theorem mapLenO_m {en:List (FV × FV)}:mapLenO (some (.mp en))=some (.int .i64 en.length):=rfl
theorem cells_m {i:Nat}:(FV.map i).cells=[.map i]:=rfl
theorem ok_m {i:Nat}:(FV.map i).ok=true:=rfl
theorem one_m {i:Nat}:(FV.map i).one=true:=rfl
theorem cells_nm:FV.nilm.cells=[.nilm]:=rfl
theorem ok_nm:FV.nilm.ok=true:=rfl
theorem one_nm:FV.nilm.one=true:=rfl
theorem resh_nm {c:FV} {cs:List FV}:reshape .nilm (c::cs)=c:=rfl
theorem resh_m {i:Nat} {c:FV} {cs:List FV}:reshape (.map i) (c::cs)=c:=rfl
def fnV:FV→Option (Nat × List FV)
 |.fn q caps=>some (q,caps)
 |_=>none
theorem fnV_f {q:Nat} {caps:List FV}:fnV (.fn q caps)=some (q,caps):=rfl
theorem w_rf {f:Nat} {x:X} {ct:List Nat} :
  runs T (.code (.rf f x ct)::k) m h nx=@B (Nat × List FV) Out (fnV (ev m x)) ⟨fun p=>@B (FV × Heap × Nat) Out (np (lim T) p.1 (.yl f nx (evs m (ct.map .t))::p.2) ((nx,.lp 0 0)::h) (nx + 1)) ⟨rfK T k m nx⟩⟩:=by
 generalize hx:ev m x=v
 cases v with
 |fn q caps=>exact runs_rf hx
 |_=>exact runs_none fun n=>by simp only [run,hx]
theorem fz_fn {n f:Nat} {cs:List FV} (hl:cs.length ≤ n):frz h (n + 1) (.fn f cs)=@B (List FV) FV (frzs h n cs) ⟨fun r=>some (.fn f r)⟩:=by
 cases hp:pure_ (.fn f cs) with
 |false=>simp only [frz,hp,Bool.false_eq_true,if_false];rfl
 |true=>rw [frz_pure hp,frzs_pure (by simpa [pure_] using hp) hl];rfl
theorem fz_ptr {n i s j o:Nat}:frz h (n + 1) (.ptr i s j o)=@B FV FV (elemAt h i s j) ⟨fun e=>@B (List FV) FV (frzs h n e.cells) ⟨fun r=>@Ck FV (r.length ≠ 0) ⟨fun _=>some (.eptr r o)⟩⟩⟩:=by
 simp only [frz,pure_,Bool.false_eq_true,if_false]
 show bnd _ _=bnd _ _
 congr 1;funext e
 show bnd _ _=bnd _ _
 congr 1;funext r
 exact Ck_chk
theorem elemAt_r {i s j es:Nat} {xs:List FV} (hg:hget h i=some (.row es xs)):elemAt h i s j=@Ck FV (xs.length=s) ⟨fun _=>xs[j]?⟩:=by
 simp only [elemAt,hg];exact Ck_chk
theorem Ok_call {γ δ:Type} {f:Nat} {a:List FV} {F:(FV × Heap × Nat)→Option γ} {G:γ→Option δ} {ps:FV × Heap × Nat→Prop} {q:Post δ} (hl:∃ r,lim T f a h nx=some r∧ps r) (hk:∀ r,ps r→isPan r.1=false∧@Ok δ (@B γ δ (F r) ⟨G⟩) q) :
  @Ok δ (@B γ δ (@B (FV × Heap × Nat) γ (@B (FV × Heap × Nat) (FV × Heap × Nat) (lim T f a h nx) ⟨fun r=>@If (Option (FV × Heap × Nat)) (isPan r.1) ⟨none,some r⟩⟩) ⟨F⟩) ⟨G⟩) q:=by
 obtain ⟨r,h1,h2⟩:=hl
 obtain ⟨h3,h4⟩:=hk r h2
 rw [h1,B_some,h3,If_f,B_some];exact h4
theorem Ok_call1 {δ:Type} {f:Nat} {a:List FV} {F:(FV × Heap × Nat)→Option δ} {ps:FV × Heap × Nat→Prop} {q:Post δ} (hl:∃ r,lim T f a h nx=some r∧ps r) (hk:∀ r,ps r→isPan r.1=false∧@Ok δ (F r) q) :
  @Ok δ (@B (FV × Heap × Nat) δ (@B (FV × Heap × Nat) (FV × Heap × Nat) (lim T f a h nx) ⟨fun r=>@If (Option (FV × Heap × Nat)) (isPan r.1) ⟨none,some r⟩⟩) ⟨F⟩) q:=by
 obtain ⟨r,h1,h2⟩:=hl
 obtain ⟨h3,h4⟩:=hk r h2
 rw [h1,B_some,h3,If_f,B_some];exact h4
def rfV (T:Tab) (k:List I) (m:Tm) (nx:Nat) (h':Heap) (nx':Nat):Option Obj→Option Out
 |some (.lp st jp)=>@Ck Out (st ≠ 1) ⟨fun _=>runs T (jpI jp k) m (hset h' nx (.lp 3 jp)) nx'⟩
 |_=>none
theorem rfK_V {v:FV} {h':Heap} {nx':Nat}:rfK T k m nx (v,h',nx')=rfV T k m nx h' nx' (hget h' nx):=by
 simp only [rfK,rfV]
 cases hget h' nx with
 |none=>rfl
 |some o=>cases o<;>first | rfl | exact Ck_chk
theorem rfV_0 {h':Heap} {nx':Nat}:rfV T k m nx h' nx' (some (.lp 0 0))=runs T k m (hset h' nx (.lp 3 0)) nx':=Ck_pos (by decide)
theorem rfV_1 {h':Heap} {nx':Nat}:rfV T k m nx h' nx' (some (.lp 2 1))=runs T (.code .rt::k) m (hset h' nx (.lp 3 1)) nx':=Ck_pos (by decide)
theorem rfV_2 {h':Heap} {nx' e:Nat}:rfV T k m nx h' nx' (some (.lp 2 (e + 2)))=runs T (.code (.xt e)::k) m (hset h' nx (.lp 3 (e + 2))) nx':=Ck_pos (by decide)
def begV (T:Tab) (k:List I) (m:Tm) (h:Heap) (nx id:Nat):Option Obj→Option Out
 |some (.lp 0 jp)=>runs T k m (hset h id (.lp 1 jp)) nx
 |_=>none
theorem w_beg {id:Nat}:runs T (.beg id::k) m h nx=begV T k m h nx id (hget h id):=by
 rw [runs_beg]
 unfold begV
 cases hget h id with
 |none=>rfl
 |some o=>cases o<;>rfl
theorem begV_l {id jp:Nat}:begV T k m h nx id (some (.lp 0 jp))=runs T k m (hset h id (.lp 1 jp)) nx:=rfl
theorem lim_round {f:Nat} {d:Rd} {g id jp:Nat} {caps xs:List FV} (ht:tget T f=some (.rd d)) (hx:xs.length=d.ps.length) (hc:caps.length=d.ct.length) (hg:hget h id=some (.lp 0 jp)) (hge:RB ≤ f:=by decide) :
  lim T f (.yl g id caps::xs) h nx=@B Out (FV × Heap × Nat) (runs T [.code d.asg,.beg id,.code d.body] (zipTm d.ps xs ++ zipTm d.ct caps) h nx) ⟨leave id⟩:=by
 rw [lim_rd ht hge]
 simp only [roundWith]
 rw [chk,if_pos ⟨hx,hc,by simp [isLp,hg]⟩]
 rfl
def lvV (id:Nat) (h:Heap) (nx:Nat) (v:FV) (o:Obj):Option Obj→Option (FV × Heap × Nat)
 |some (.lp _ _)=>some (v,hset h id o,nx)
 |_=>none
theorem leave_fin:leave id (.fin,m,h,nx)=lvV id h nx (.bool true) (.lp 0 0) (hget h id):=by
 simp only [leave,lvV]
 cases hget h id with
 |none=>rfl
 |some o=>cases o<;>rfl
theorem leave_ret:leave id (.ret,m,h,nx)=lvV id h nx (.bool false) (.lp 2 1) (hget h id):=by
 simp only [leave,lvV]
 cases hget h id with
 |none=>rfl
 |some o=>cases o<;>rfl
theorem leave_xt {e:Nat}:leave id (.xt e,m,h,nx)=lvV id h nx (.bool false) (.lp 2 (e + 2)) (hget h id):=by
 simp only [leave,lvV]
 cases hget h id with
 |none=>rfl
 |some o=>cases o<;>rfl
theorem lvV_l {v:FV} {o:Obj} {a b:Nat}:lvV id h nx v o (some (.lp a b))=some (v,hset h id o,nx):=rfl
theorem w_xe {e:Nat}:runs T [.code (.xt e)] m h nx=some (.xt e,m,h,nx):=by rw [runs_xt];rfl
theorem zip_n {ts:List Nat}:zipTm ts []=[]:=by cases ts<;>rfl
theorem zip_m {vs:List FV}:zipTm [] vs=[]:=rfl
theorem zip_c {t:Nat} {ts:List Nat} {v:FV} {vs:List FV}:zipTm (t::ts) (v::vs)=(t,v)::zipTm ts vs:=rfl
def isCP:O→Bool
 |.pn _ | .cl _ _=>true
 |_=>false
def rqK (T:Tab) (keep:List Nat) (k:List I) (x:Option FV × Tm × Heap × Nat):Option Out :=
 match x.1 with
 |none=>runs T k (keepOf x.2.1 keep) x.2.2.1 x.2.2.2
 |some v=>some (.pan v,x.2.1,x.2.2.1,x.2.2.2)
theorem w_rq {gs:List G} {keep:List Nat}:runs T (.code (.rq gs keep)::k) m h nx=@B (Option FV × Tm × Heap × Nat) Out (ropsP (lim T) nx gs m h (nx + gs.length)) ⟨rqK T keep k⟩:=by
 cases hl:ropsP (lim T) nx gs m h (nx + gs.length) with
 |none=>exact runs_none fun n=>by simp only [run,hl,bnd]
 |some x =>
  obtain ⟨o,y⟩:=x
  cases o with
  |none=>exact runs_step fun n=>by simp only [run,hl,bnd]
  |some v=>exact runs_end fun n=>by simp only [run,hl,bnd]
theorem rqK_n {keep:List Nat}:rqK T keep k (none,m,h,nx)=runs T k (keepOf m keep) h nx:=rfl
theorem rqK_s {keep:List Nat} {v:FV}:rqK T keep k (some v,m,h,nx)=some (.pan v,m,h,nx):=rfl
theorem p_nil:ropsP cal id [] m h nx=some (none,m,h,nx):=rfl
theorem p_op {o:O} (ho:isCP o=false):ropsP cal id (⟨d,none,o,[]⟩::r) m h nx=@B (Tm × Heap × Nat) (Option FV × Tm × Heap × Nat) (rops (np cal) id [⟨d,none,o,[]⟩] m h nx) ⟨fun y=>ropsP cal (id + 1) r y.1 y.2.1 y.2.2⟩:=by
 have e:rops (np cal) id [⟨d,none,o,[]⟩] m h nx=bnd (opg (np cal) id ⟨d,none,o,[]⟩ m h nx) fun x=>some (put m d x.1,x.2.1,x.2.2):=rfl
 rw [e]
 have e2:ropsP cal id (⟨d,none,o,[]⟩::r) m h nx=bnd (opg (np cal) id ⟨d,none,o,[]⟩ m h nx) fun x=>ropsP cal (id + 1) r (put m d x.1) x.2.1 x.2.2:=by
  cases o<;>first | rfl | (simp [isCP] at ho)
 rw [e2]
 cases opg (np cal) id ⟨d,none,o,[]⟩ m h nx<;>rfl
def pcK (cal:Call) (id:Nat) (d:Option Nat) (r:List G) (m:Tm) (y:FV × Heap × Nat):Option (Option FV × Tm × Heap × Nat) :=
 match y.1 with
 |.pan v=>some (some v,m,y.2.1,y.2.2)
 |v=>ropsP cal (id + 1) r (put m d v) y.2.1 y.2.2
theorem p_cl {f:Nat} {as:List X}:ropsP cal id (⟨d,none,.cl f as,re⟩::r) m h nx=@B (FV × Heap × Nat) (Option FV × Tm × Heap × Nat) (cal f (evs m as) h nx) ⟨pcK cal id d r m⟩:=by
 have e:ropsP cal id (⟨d,none,.cl f as,re⟩::r) m h nx=bnd (cal f (evs m as) h nx) fun y=>match y.1 with
     |.pan v=>some (some v,m,y.2.1,y.2.2)
     |v=>ropsP cal (id + 1) r (put m d v) y.2.1 y.2.2:=rfl
 rw [e]
 cases cal f (evs m as) h nx<;>rfl
theorem pcK_p {v:FV} {h':Heap} {nx':Nat}:pcK cal id d r m (.pan v,h',nx')=some (some v,m,h',nx'):=rfl
theorem pcK_v {v:FV} {h':Heap} {nx':Nat} (hv:isPan v=false):pcK cal id d r m (v,h',nx')=ropsP cal (id + 1) r (put m d v) h' nx':=by
 cases v<;>first | rfl | (simp [isPan] at hv)
def pnV:FV→Option FV
 |.ifc t v=>some (.ifc t v)
 |_=>none
theorem p_pn:ropsP cal id (⟨d,none,.pn x,re⟩::r) m h nx=@B FV (Option FV × Tm × Heap × Nat) (pnV (ev m x)) ⟨fun v=>some (some v,m,h,nx)⟩:=by
 have e:ropsP cal id (⟨d,none,.pn x,re⟩::r) m h nx=match ev m x with
     |.ifc t v=>some (some (.ifc t v),m,h,nx)
     |_=>none:=rfl
 rw [e]
 cases ev m x<;>rfl
theorem pnV_i {t:Nat} {v:FV}:pnV (.ifc t v)=some (.ifc t v):=rfl
theorem p_gd {op:O} {t:Nat} {c:Bool}:ropsP cal id (⟨d,some (t,c),op,re⟩::r) m h nx =
  @B Bool (Option FV × Tm × Heap × Nat) (wantB (gt m t) c) ⟨fun b=>@If (Option (Option FV × Tm × Heap × Nat)) b ⟨ropsP cal id (⟨d,none,op,re⟩::r) m h nx,ropsP cal (id + 1) r (put m d (.tup [])) h nx⟩⟩:=by
 rw [← wanted_B]
 simp only [ropsP]
 cases wanted m (some (t,c)) with
 |none=>rfl
 |some b=>cases b<;>rfl
end
theorem EV5:type_of% (And.intro @np_l <| And.intro @pan_i <| And.intro @pan_b <| And.intro @pan_s <| And.intro @pan_a <| And.intro @pan_t <| And.intro @pan_l <| And.intro @pan_e <| And.intro @pan_p <| And.intro @pan_r <| And.intro @pan_m <| And.intro @pan_f <| And.intro @pan_c <| And.intro @pan_n <| And.intro @pan_nf <| And.intro @pan_nm <| And.intro @pan_ni <| And.intro @pan_pan <|
 And.intro @r_sn <| And.intro @snV_l <| And.intro @r_xa <| And.intro @xaV_a <| And.intro @r_cs <| And.intro @csV_l <| And.intro @csV_r <| And.intro @r_ta <| And.intro @taV_i <| And.intro @taV_n <| And.intro @r_isn <| And.intro @isnV_i <| And.intro @isnV_n <| And.intro @r_ib <| And.intro @ibV_s <|
 And.intro @cw_y <| And.intro @w_rf <| And.intro @fnV_f <| And.intro @fz_fn <| And.intro @fz_ptr <| And.intro @w_rq <| And.intro @rqK_n <| And.intro @rqK_s <| And.intro @p_nil <| And.intro @p_cl <| And.intro @pcK_p <| And.intro @pcK_v <| And.intro @p_pn <| And.intro @pnV_i <| @p_gd):=And.intro @np_l <| And.intro @pan_i <| And.intro @pan_b <| And.intro @pan_s <| And.intro @pan_a <| And.intro @pan_t <| And.intro @pan_l <| And.intro @pan_e <| And.intro @pan_p <| And.intro @pan_r <| And.intro @pan_m <| And.intro @pan_f <| And.intro @pan_c <| And.intro @pan_n <| And.intro @pan_nf <| And.intro @pan_nm <| And.intro @pan_ni <| And.intro @pan_pan <|
 And.intro @r_sn <| And.intro @snV_l <| And.intro @r_xa <| And.intro @xaV_a <| And.intro @r_cs <| And.intro @csV_l <| And.intro @csV_r <| And.intro @r_ta <| And.intro @taV_i <| And.intro @taV_n <| And.intro @r_isn <| And.intro @isnV_i <| And.intro @isnV_n <| And.intro @r_ib <| And.intro @ibV_s <|
 And.intro @cw_y <| And.intro @w_rf <| And.intro @fnV_f <| And.intro @fz_fn <| And.intro @fz_ptr <| And.intro @w_rq <| And.intro @rqK_n <| And.intro @rqK_s <| And.intro @p_nil <| And.intro @p_cl <| And.intro @pcK_p <| And.intro @pcK_v <| And.intro @p_pn <| And.intro @pnV_i <| @p_gd
theorem EV6:type_of% (And.intro @lookup_m <| And.intro @lkM_t <| And.intro @lkM_f <| And.intro @lkR_s <| And.intro @lkR_n <| And.intro @muV_m <| And.intro @muM_m <| And.intro @mapLen_m <| And.intro @mapLenO_m <| And.intro @cells_m <| And.intro @ok_m <| And.intro @one_m <| And.intro @cells_nm <| And.intro @ok_nm <| And.intro @one_nm <| And.intro @resh_nm <| And.intro @resh_m <| And.intro @aaV_e <| And.intro @aaV_p <| And.intro @rfK_V <| And.intro @rfV_0 <| And.intro @rfV_1 <| And.intro @rfV_2 <| And.intro @w_beg <| And.intro @begV_l <| And.intro @leave_fin <| And.intro @leave_ret <| And.intro @leave_xt <| And.intro @lvV_l <| And.intro @w_xe <| And.intro @zip_n <| And.intro @zip_m <| @zip_c):=And.intro @lookup_m <| And.intro @lkM_t <| And.intro @lkM_f <| And.intro @lkR_s <| And.intro @lkR_n <| And.intro @muV_m <| And.intro @muM_m <| And.intro @mapLen_m <| And.intro @mapLenO_m <| And.intro @cells_m <| And.intro @ok_m <| And.intro @one_m <| And.intro @cells_nm <| And.intro @ok_nm <| And.intro @one_nm <| And.intro @resh_nm <| And.intro @resh_m <| And.intro @aaV_e <| And.intro @aaV_p <| And.intro @rfK_V <| And.intro @rfV_0 <| And.intro @rfV_1 <| And.intro @rfV_2 <| And.intro @w_beg <| And.intro @begV_l <| And.intro @leave_fin <| And.intro @leave_ret <| And.intro @leave_xt <| And.intro @lvV_l <| And.intro @w_xe <| And.intro @zip_n <| And.intro @zip_m <| @zip_c
end
end Go.FI
namespace Go.FI
theorem most_eq:most=1099511627776:=rfl
theorem deep_eq:deep=1152921504606846976:=rfl
theorem EV7:type_of% (And.intro @w_lp1 <| And.intro @w_lp0 <| And.intro @ca_0 <| And.intro @ca_s <| And.intro @Ck_pos <| And.intro @take_full <| And.intro @wrap64 <| And.intro @wrapu64 <| And.intro @wrapu8 <| And.intro @wrapi8 <| And.intro @most_eq <| And.intro @deep_eq <| And.intro @FV.bool.injEq <| @FV.int.injEq) :=
 And.intro @w_lp1 <| And.intro @w_lp0 <| And.intro @ca_0 <| And.intro @ca_s <| And.intro @Ck_pos <| And.intro @take_full <| And.intro @wrap64 <| And.intro @wrapu64 <| And.intro @wrapu8 <| And.intro @wrapi8 <| And.intro @most_eq <| And.intro @deep_eq <| And.intro @FV.bool.injEq <| @FV.int.injEq
theorem EV8:type_of% (And.intro @List.map_cons.{0,0} <| And.intro @List.map_nil.{0,0} <| And.intro @List.length_cons.{0} <| And.intro @List.length_nil.{0} <| And.intro @List.getElem?_cons_zero.{0} <| And.intro @List.getElem?_cons_succ.{0} <| And.intro @if_true.{1} <| And.intro @if_false.{1} <| And.intro @List.all_cons.{0} <| And.intro @List.all_nil.{0} <| And.intro @Bool.and_self <| And.intro @Bool.and_true <| And.intro @Bool.true_and <| And.intro @beq_self_eq_true.{0} <| And.intro @Bool.not_true <| And.intro @Bool.not_false <| And.intro @decide_true <| And.intro @decide_false <| And.intro @eq_self.{1} <| And.intro @and_self <| And.intro @true_and <| @and_true) :=
 And.intro @List.map_cons.{0,0} <| And.intro @List.map_nil.{0,0} <| And.intro @List.length_cons.{0} <| And.intro @List.length_nil.{0} <| And.intro @List.getElem?_cons_zero.{0} <| And.intro @List.getElem?_cons_succ.{0} <| And.intro @if_true.{1} <| And.intro @if_false.{1} <| And.intro @List.all_cons.{0} <| And.intro @List.all_nil.{0} <| And.intro @Bool.and_self <| And.intro @Bool.and_true <| And.intro @Bool.true_and <| And.intro @beq_self_eq_true.{0} <| And.intro @Bool.not_true <| And.intro @Bool.not_false <| And.intro @decide_true <| And.intro @decide_false <| And.intro @eq_self.{1} <| And.intro @and_self <| And.intro @true_and <| @and_true
theorem EV9:type_of% (And.intro @List.drop_zero.{0} <| And.intro @List.drop_succ_cons.{0} <| And.intro @List.take_succ_cons.{0} <| And.intro @List.take_zero.{0} <| And.intro @List.take_nil.{0} <| And.intro @List.drop_nil.{0} <| And.intro @List.cons_append.{0} <| And.intro @List.nil_append.{0} <| And.intro @List.append_nil.{0} <| And.intro @Int.toNat_natCast <| And.intro @List.length_map.{0,0} <| And.intro @Nat.le_refl <| And.intro @Nat.zero_add <| And.intro @Nat.sub_zero <| And.intro @Nat.add_zero <| And.intro @List.replicate_succ.{0} <| And.intro @List.replicate_zero.{0} <| And.intro @List.set_cons_zero.{0} <| And.intro @List.set_cons_succ.{0} <| @Option.some.injEq.{0}) :=
 And.intro @List.drop_zero.{0} <| And.intro @List.drop_succ_cons.{0} <| And.intro @List.take_succ_cons.{0} <| And.intro @List.take_zero.{0} <| And.intro @List.take_nil.{0} <| And.intro @List.drop_nil.{0} <| And.intro @List.cons_append.{0} <| And.intro @List.nil_append.{0} <| And.intro @List.append_nil.{0} <| And.intro @Int.toNat_natCast <| And.intro @List.length_map.{0,0} <| And.intro @Nat.le_refl <| And.intro @Nat.zero_add <| And.intro @Nat.sub_zero <| And.intro @Nat.add_zero <| And.intro @List.replicate_succ.{0} <| And.intro @List.replicate_zero.{0} <| And.intro @List.set_cons_zero.{0} <| And.intro @List.set_cons_succ.{0} <| @Option.some.injEq.{0}
theorem EVL:type_of% (And.intro @List.length_append.{0} <| And.intro @List.length_map.{0,0} <| And.intro @List.length_cons.{0} <| And.intro @List.length_nil.{0} <| And.intro @List.length_replicate.{0} <| And.intro @List.length_drop.{0} <| @List.length_take.{0}) :=
 And.intro @List.length_append.{0} <| And.intro @List.length_map.{0,0} <| And.intro @List.length_cons.{0} <| And.intro @List.length_nil.{0} <| And.intro @List.length_replicate.{0} <| And.intro @List.length_drop.{0} <| @List.length_take.{0}
theorem EVS:type_of% (And.intro EV1 <| And.intro EV2 <| And.intro EV3 <| And.intro EV4 <| And.intro EV5 <| And.intro EV6 <| And.intro EV7 <| And.intro EV8 <| And.intro EV9 G_eqs):=And.intro EV1 <| And.intro EV2 <| And.intro EV3 <| And.intro EV4 <| And.intro EV5 <| And.intro EV6 <| And.intro EV7 <| And.intro EV8 <| And.intro EV9 G_eqs
end Go.FI
namespace Go.FI
section
variable {T:Tab}
theorem run_up {k k':Nat} (hk:k ≤ k') {l:List I} {m:Tm} {h:Heap} {nx:Nat} {x:Ex × Tm × Heap × Nat} (hx:run (call T k) k l m h nx=some x):run (call T k') k' l m h nx=some x :=
 run_le (call_le T k k' hk) k k' hk _ _ _ _ _ hx
theorem rops_up {k k':Nat} (hk:k ≤ k') {i:Nat} {l:List G} {m:Tm} {h:Heap} {nx:Nat} {x:Tm × Heap × Nat} (hx:rops (np (call T k)) i l m h nx=some x):rops (np (call T k')) i l m h nx=some x :=
 rops_le (np_le (call_le T k k' hk)) _ _ _ _ _ _ hx
theorem runs_cont {l:List I} {m:Tm} {h:Heap} {nx:Nat} {x:Ex × Tm × Heap × Nat} (hx:runs T l m h nx=some x):∃ k,run (call T k) k l m h nx=some x:=by
 obtain ⟨n,h4⟩:=runs_some.1 hx
 obtain ⟨k,_,h5⟩:=run_cont n _ _ _ _ _ h4
 exact ⟨k,h5⟩
theorem runPre_cont:∀ (ps:List C) (m:Tm) (h:Heap) (nx:Nat) (x:Ex × Tm × Heap × Nat),runPre (runs T) ps m h nx=some x→∃ k,runPre (run (call T k) k) ps m h nx=some x:=by
 intro ps
 induction ps with
 |nil=>intro m h nx x hx;exact ⟨0,hx⟩
 |cons p ps ih =>
  intro m h nx x hx
  simp only [runPre] at hx
  obtain ⟨⟨ex,y⟩,h1,h2⟩:=bnd_some hx
  obtain ⟨k1,h1⟩:=runs_cont h1
  cases ex with
  |fin =>
   obtain ⟨k2,h3⟩:=ih _ _ _ _ h2
   refine ⟨max k1 k2,?_⟩
   simp only [runPre]
   refine bnd_mk (run_up (by omega) h1) ?_
   exact runPre_map (fun l m h nx x hx=>run_up (by omega) hx) _ _ _ _ _ h3
  |ret=>exact ⟨k1,by simp only [runPre];exact bnd_mk h1 h2⟩
  |xt=>exact ⟨k1,by simp only [runPre];exact bnd_mk h1 h2⟩
  |pan=>exact ⟨k1,by simp only [runPre];exact bnd_mk h1 h2⟩
theorem runIt_cont {d:Mr} {e:FV × FV} {m:Tm} {h:Heap} {nx:Nat} {x:Tm × Heap × Nat} (hx:runIt (rops (np (lim T))) (runs T) d e m h nx=some x):∃ k,runIt (rops (np (call T k))) (run (call T k) k) d e m h nx=some x:=by
 unfold runIt at hx
 obtain ⟨y,h1,h2⟩:=bnd_some hx
 obtain ⟨z,h3,h4⟩:=bnd_some h2
 obtain ⟨k1,h1⟩:=rops_cont _ _ _ _ _ _ h1
 obtain ⟨k2,h3⟩:=runs_cont h3
 refine ⟨max k1 k2,?_⟩
 unfold runIt
 exact bnd_mk (rops_up (by omega) h1) (bnd_mk (run_up (by omega) h3) h4)
theorem same_cont {α:Type} {F:α→Option FV} {G:Nat→α→Option FV} (up:∀ k k' x r,k ≤ k'→G k x=some r→G k' x=some r):∀ {l:List α} {r:FV},(∀ x ∈ l,∀ r,F x=some r→∃ k,G k x=some r)→same (l.map F)=some r→∃ k,same (l.map (G k))=some r:=by
 intro l
 induction l with
 |nil=>intro r _ h;exact ⟨0,h⟩
 |cons x l ih =>
  intro r hfg h
  cases l with
  |nil =>
   simp only [List.map_cons,List.map_nil,same] at h ⊢
   exact hfg x (by simp) _ h
  |cons y l =>
   simp only [List.map_cons,same] at h ⊢
   obtain ⟨a,h1,h⟩:=bnd_some h
   obtain ⟨b,h2,h⟩:=bnd_some h
   obtain ⟨k1,h1⟩:=hfg x (by simp) _ h1
   obtain ⟨k2,h2⟩:=ih (fun z hz=>hfg z (by simp [hz])) h2
   refine ⟨max k1 k2,bnd_mk (up _ _ _ _ (by omega) h1) (bnd_mk (same_map (l:=y::l) (fun z _ r hr=>up _ _ _ _ (by omega) hr) h2) h)⟩
theorem runAll_cont {d:Mr} {iid:Nat}:∀ (c:Nat) (l:List (FV × FV)) (m:Tm) (h:Heap) (nx:Nat) (r:FV),runAll (rops (np (lim T))) (runs T) d iid c l m h nx=some r→∃ k,runAll (rops (np (call T k))) (run (call T k) k) d iid c l m h nx=some r:=by
 intro c
 induction c with
 |zero =>
  intro l m h nx r hx
  cases l with
  |nil =>
   simp only [runAll] at hx ⊢
   obtain ⟨h1,hx⟩:=chk_some hx
   obtain ⟨y,h2,hx⟩:=bnd_some hx
   obtain ⟨k,h2⟩:=runs_cont h2
   refine ⟨k,?_⟩
   rw [chk,if_pos h1]
   exact bnd_mk h2 hx
  |cons=>simp [runAll] at hx
 |succ c ih =>
  intro l m h nx r hx
  cases l with
  |nil =>
   simp only [runAll] at hx ⊢
   obtain ⟨h1,hx⟩:=chk_some hx
   obtain ⟨y,h2,hx⟩:=bnd_some hx
   obtain ⟨k,h2⟩:=runs_cont h2
   refine ⟨k,?_⟩
   rw [chk,if_pos h1]
   exact bnd_mk h2 hx
  |cons e es =>
   simp only [runAll] at hx ⊢
   obtain ⟨h1,hx⟩:=chk_some hx
   have:=same_cont (l:=picks (e::es)) (F:=fun p=>bnd (runIt (rops (np (lim T))) (runs T) d p.1 (keepOf m d.keep0) h nx) fun y=>runAll (rops (np (lim T))) (runs T) d iid c p.2 y.1 y.2.1 y.2.2)
    (G:=fun k p=>bnd (runIt (rops (np (call T k))) (run (call T k) k) d p.1 (keepOf m d.keep0) h nx) fun y=>runAll (rops (np (call T k))) (run (call T k) k) d iid c p.2 y.1 y.2.1 y.2.2)
    (fun k k' x r hk hr=>by
     obtain ⟨y,h3,h4⟩:=bnd_some hr
     exact bnd_mk (runIt_map (fun _ _ _ _ _ _ hx=>rops_up hk hx) (fun _ _ _ _ _ hx=>run_up hk hx) h3) (runAll_map (fun _ _ _ _ _ _ hx=>rops_up hk hx) (fun _ _ _ _ _ hx=>run_up hk hx) _ _ _ _ _ _ h4))
    (fun x _ r hr=>by
     obtain ⟨y,h3,h4⟩:=bnd_some hr
     obtain ⟨k1,h3⟩:=runIt_cont h3
     obtain ⟨k2,h4⟩:=ih _ _ _ _ _ h4
     exact ⟨max k1 k2,bnd_mk (runIt_map (fun _ _ _ _ _ _ hx=>rops_up (by omega) hx) (fun _ _ _ _ _ hx=>run_up (by omega) hx) h3) (runAll_map (fun _ _ _ _ _ _ hx=>rops_up (by omega) hx) (fun _ _ _ _ _ hx=>run_up (by omega) hx) _ _ _ _ _ _ h4)⟩) hx
   obtain ⟨k,hk⟩:=this
   exact ⟨k,by rw [chk,if_pos h1];exact hk⟩
theorem mrV_cont {d:Mr} {args:List FV} {r:FV} (hx:mrV (rops (np (lim T))) (runs T) d args=some r):∃ k,mrV (rops (np (call T k))) (run (call T k) k) d args=some r:=by
 unfold mrV at hx
 obtain ⟨h1,hx⟩:=chk_some hx
 obtain ⟨⟨ex,m1,h1',nx1⟩,h2,hx⟩:=bnd_some hx
 obtain ⟨k1,h2⟩:=runPre_cont _ _ _ _ _ h2
 cases ex with
 |ret =>
  refine ⟨k1,?_⟩
  unfold mrV
  rw [chk,if_pos h1]
  exact bnd_mk h2 hx
 |fin =>
  simp only at hx
  cases he:gt m1 d.mp with
  |map id =>
   rw [he] at hx
   simp only at hx
   cases hg:hget h1' id with
   |none=>rw [hg] at hx;cases hx
   |some o =>
    rw [hg] at hx
    cases o with
    |mp en =>
     obtain ⟨k2,hx⟩:=runAll_cont _ _ _ _ _ _ hx
     refine ⟨max k1 k2,?_⟩
     unfold mrV
     rw [chk,if_pos h1]
     refine bnd_mk (runPre_map (fun _ _ _ _ _ hx=>run_up (by omega) hx) _ _ _ _ _ h2) ?_
     simp only [he,hg]
     exact runAll_map (fun _ _ _ _ _ _ hx=>rops_up (by omega) hx) (fun _ _ _ _ _ hx=>run_up (by omega) hx) _ _ _ _ _ _ hx
    |_=>cases hx
  |_=>rw [he] at hx;cases hx
 |_=>cases hx
theorem lim_mr {f:Nat} {d:Mr} {args:List FV} {v:FV} (ht:tget T f=some (.mr d)) (hv:mrV (rops (np (lim T))) (runs T) d args=some v) (hlt:f < RB:=by decide) (h:Heap) (nx:Nat):lim T f args h nx=some (v,h,nx):=by
 obtain ⟨k,hk⟩:=mrV_cont hv
 refine lim_some.2 ⟨k + 1,?_⟩
 simp only [call,ht]
 rw [chk,if_pos hlt,enterM]
 exact bnd_mk hk rfl
theorem same_all {α:Type} {F:α→Option FV} {v:FV}:∀ {l:List α},l ≠ []→(∀ x ∈ l,F x=some v)→same (l.map F)=some v:=by
 intro l
 induction l with
 |nil=>intro h _;exact absurd rfl h
 |cons x l ih =>
  intro _ h
  cases l with
  |nil=>simp only [List.map_cons,List.map_nil,same];exact h x (by simp)
  |cons y l =>
   simp only [List.map_cons,same]
   refine bnd_mk (h x (by simp)) (bnd_mk (ih (by simp) fun z hz=>h z (by simp [hz])) ?_)
   rw [if_pos (eqv_refl v)]
theorem picks_perm {α:Type}:∀ (l:List α) (p:α × List α),p ∈ picks l→(p.1::p.2).Perm l∧p.2.length + 1=l.length:=by
 intro l
 induction l with
 |nil=>intro p h;cases h
 |cons a r ih =>
  intro p h
  simp only [picks,List.mem_cons,List.mem_map] at h
  rcases h with rfl | ⟨q,hq,rfl⟩
  ·exact ⟨List.Perm.refl _,rfl⟩
  ·obtain ⟨h1,h2⟩:=ih q hq
   exact ⟨(List.Perm.swap a q.1 q.2).trans (h1.cons a),by simp only [List.length_cons];omega⟩
theorem runAll_inv {ro:Ro} {rn:Rn} {d:Mr} {iid:Nat} {v:FV} {en:List (FV × FV)} (P:List (FV × FV)→Tm→Heap→Nat→Prop)
  (it:∀ dn m h nx,P dn m h nx→eqv (gt (keepOf m d.keep0) d.it) (.ptr iid 1 0 0)=true)
  (step:∀ dn e rest m h nx,(dn ++ e::rest).Perm en→P dn m h nx→∃ y,runIt ro rn d e (keepOf m d.keep0) h nx=some y∧P (dn ++ [e]) y.1 y.2.1 y.2.2)
  (fin:∀ dn m h nx,dn.Perm en→P dn m h nx→bnd (rn [.code d.post] (keepOf m d.keep0) h nx) (resM d.res)=some v) :
  ∀ (c:Nat) (l dn:List (FV × FV)) (m:Tm) (h:Heap) (nx:Nat),l.length ≤ c→(dn ++ l).Perm en→P dn m h nx→runAll ro rn d iid c l m h nx=some v:=by
 intro c
 induction c with
 |zero =>
  intro l dn m h nx hl hp hP
  cases l with
  |nil =>
   simp only [runAll]
   rw [chk,if_pos (it _ _ _ _ hP)]
   exact fin dn m h nx (by simpa using hp) hP
  |cons e es=>simp at hl
 |succ c ih =>
  intro l dn m h nx hl hp hP
  cases l with
  |nil =>
   simp only [runAll]
   rw [chk,if_pos (it _ _ _ _ hP)]
   exact fin dn m h nx (by simpa using hp) hP
  |cons e es =>
   simp only [runAll]
   rw [chk,if_pos (it _ _ _ _ hP)]
   refine same_all (by simp [picks]) fun p hpk=>?_
   obtain ⟨q1,q2⟩:=picks_perm _ p hpk
   have hperm:(dn ++ p.1::p.2).Perm en:=(List.Perm.append_left dn q1).trans hp
   obtain ⟨y,h1,h2⟩:=step dn p.1 p.2 m h nx hperm hP
   refine bnd_mk h1 (ih p.2 (dn ++ [p.1]) y.1 y.2.1 y.2.2 ?_ (by simpa using hperm) h2)
   simp only [List.length_cons] at hl q2;omega
theorem Ok_pre {p:C} {ps:List C} {m:Tm} {h:Heap} {nx:Nat} {q:Post Out} (hh:@Ok Out (runs T [.code p] m h nx) ⟨fun x=>match x.1 with | .fin=>@Ok Out (runPre (runs T) ps x.2.1 x.2.2.1 x.2.2.2) q | e=>q.q (e,x.2)⟩):@Ok Out (runPre (runs T) (p::ps) m h nx) q:=by
 obtain ⟨⟨ex,y⟩,h1,h2⟩:=hh
 cases ex with
 |fin =>
  obtain ⟨z,h3,h4⟩:=h2
  exact ⟨z,by simp only [runPre];exact bnd_mk h1 h3,h4⟩
 |ret=>exact ⟨_,by simp only [runPre];exact bnd_mk h1 rfl,h2⟩
 |xt e=>exact ⟨_,by simp only [runPre];exact bnd_mk h1 rfl,h2⟩
 |pan e=>exact ⟨_,by simp only [runPre];exact bnd_mk h1 rfl,h2⟩
theorem Ok_pre0 {m:Tm} {h:Heap} {nx:Nat} {q:Post Out} (hh:q.q (.fin,m,h,nx)):@Ok Out (runPre (runs T) [] m h nx) q:=⟨_,rfl,hh⟩
theorem mr_ok {d:Mr} {args:List FV} {v:FV} (hl:args.length=d.np) (hp:pures args=true)
  (hh:@Ok Out (runPre (runs T) d.pre (params 0 args) [] 0) ⟨fun x=>match x.1 with
   |.ret=>resM d.res (.ret,x.2)=some v
   |.fin=>∃ id en,gt x.2.1 d.mp=.map id∧hget x.2.2.1 id=some (.mp en)∧runAll (rops (np (lim T))) (runs T) d x.2.2.2 en.length en (put x.2.1 (some d.it) (.ptr x.2.2.2 1 0 0)) ((x.2.2.2,.mit)::hset x.2.2.1 id (.fmp en)) (x.2.2.2 + 1)=some v
   |_=>False⟩):mrV (rops (np (lim T))) (runs T) d args=some v:=by
 obtain ⟨⟨ex,m1,h1',nx1⟩,h1,h2⟩:=hh
 unfold mrV
 rw [chk,if_pos ⟨hl,hp⟩]
 refine bnd_mk h1 ?_
 cases ex with
 |ret=>exact h2
 |fin =>
  obtain ⟨id,en,e1,e2,e3⟩:=h2
  simp only at e1 e2 e3 ⊢
  rw [e1]
  simp only
  rw [e2]
  exact e3
 |xt e=>exact h2.elim
 |pan e=>exact h2.elim
theorem resM_r {rs:List RV} {m:Tm} {h:Heap} {nx:Nat}:resM rs (.ret,m,h,nx)=@B (List FV) FV (readRes m h rs) ⟨fun vs=>frz h deep (result vs)⟩:=rfl
end
end Go.FI
namespace Go.FI
inductive Tm' where
 |mk (k w b:Int) (s:List UInt8) (lo:Int) (e:Bool) (l:List Tm')
abbrev Te:=Tm'
instance:Inhabited Tm':=⟨.mk 0 0 0 [] 0 true []⟩
namespace Tm'
def k:Te→Int | .mk k _ _ _ _ _ _=>k
def w:Te→Int | .mk _ w _ _ _ _ _=>w
def b:Te→Int | .mk _ _ b _ _ _ _=>b
def s:Te→List UInt8 | .mk _ _ _ s _ _ _=>s
def lo:Te→Int | .mk _ _ _ _ lo _ _=>lo
def e:Te→Bool | .mk _ _ _ _ _ e _=>e
def l:Te→List Te | .mk _ _ _ _ _ _ l=>l
theorem ind {p:Te→Prop} (h:∀ t,(∀ x ∈ t.l,p x)→p t) (t:Te):p t :=
 Tm'.rec (motive_1:=p) (motive_2:=fun l=>∀ x ∈ l,p x) (fun k w b s lo e l ih=>h (.mk k w b s lo e l) ih) (fun x hx=>nomatch hx)
  (fun a l ha hl x hx=>by
   rcases List.mem_cons.1 hx with rfl | hx
   ·exact ha
   ·exact hl x hx) t
end Tm'
mutual
def tV:Te→FV
 |.mk k w b s lo e l=>.agg [.int .u8 k,.int .i64 w,.int .u64 b,.str s,.int .i64 lo,.lst e (tVs l)]
def tVs:List Te→List FV
 |[]=>[]
 |t::l=>tV t::tVs l
end
theorem tVs_map (l:List Te):tVs l=l.map tV:=by
 induction l with
 |nil=>rfl
 |cons t l ih=>simp only [tVs,List.map_cons,ih]
theorem tV_eq (t:Te):tV t=.agg [.int .u8 t.k,.int .i64 t.w,.int .u64 t.b,.str t.s,.int .i64 t.lo,.lst t.e (t.l.map tV)]:=by
 cases t with | mk k w b s lo e l=>simp only [tV,tVs_map,Tm'.k,Tm'.w,Tm'.b,Tm'.s,Tm'.lo,Tm'.e,Tm'.l]
theorem pu_all {α:Type} {f:α→FV} {l:List α} (h:∀ x ∈ l,pure_ (f x)=true):pures (l.map f)=true:=by
 induction l with
 |nil=>rfl
 |cons a l ih=>simp only [List.map_cons,pures,h a (by simp),ih fun x hx=>h x (by simp [hx]),Bool.and_self]
theorem lo_all {α:Type} {f:α→FV} {b:Nat} {l:List α} (h:∀ x ∈ l,low b (f x)=true):lows b (l.map f)=true:=by
 induction l with
 |nil=>rfl
 |cons a l ih=>simp only [List.map_cons,lows,h a (by simp),ih fun x hx=>h x (by simp [hx]),Bool.and_self]
theorem pu_T (t:Te):pure_ (tV t)=true:=by
 induction t using Tm'.ind with | h t ih=>simp [tV_eq t,pure_,pures,pu_all ih]
theorem lo_T (b:Nat) (t:Te):low b (tV t)=true:=by
 induction t using Tm'.ind with | h t ih=>simp [tV_eq t,low,lows,lo_all ih]
theorem pu_Ts (l:List Te):pures (l.map tV)=true:=pu_all fun x _=>pu_T x
theorem lo_Ts (b:Nat) (l:List Te):lows b (l.map tV)=true:=lo_all fun x _=>lo_T b x
theorem al_Ts (l:List Te):(l.map tV).all FV.ok=true:=by
 simp only [List.all_map,List.all_eq_true,Function.comp_apply]
 intro x _;rw [tV_eq];rfl
theorem cl_Ts (l:List Te):((l.map tV).all fun v=>v.cells.length == 6)=true:=by
 simp only [List.all_map,List.all_eq_true,Function.comp_apply]
 intro x _;rw [tV_eq];rfl
theorem gd_T {l:List Te} {i:Nat} {d:FV} (h:i < l.length):(l.map tV).getD i d=.agg [.int .u8 (l.getD i default).k,.int .i64 (l.getD i default).w,.int .u64 (l.getD i default).b,.str (l.getD i default).s,.int .i64 (l.getD i default).lo,.lst (l.getD i default).e ((l.getD i default).l.map tV)]:=by
 rw [← tV_eq];simp [List.getD,h]
theorem ge_T {l:List Te} {i:Nat} (h:i < l.length):(l.map tV)[i]? = some (.agg [.int .u8 (l.getD i default).k,.int .i64 (l.getD i default).w,.int .u64 (l.getD i default).b,.str (l.getD i default).s,.int .i64 (l.getD i default).lo,.lst (l.getD i default).e ((l.getD i default).l.map tV)]):=by
 rw [← tV_eq];simp [List.getD,h]
theorem drop_getD {α:Type} [Inhabited α] {l:List α} {i:Nat} (h:i < l.length):l.drop i=l.getD i default::l.drop (i + 1):=by
 rw [List.drop_eq_getElem_cons h];simp [List.getD,h]
theorem getD_mem {α:Type} {l:List α} {i:Nat} {d:α} (h:i < l.length):l.getD i d ∈ l:=by
 simp [List.getD,h]
theorem TL:type_of% (And.intro pu_Ts <| And.intro lo_Ts <| And.intro al_Ts <| And.intro cl_Ts <| And.intro @gd_T @ge_T):=And.intro pu_Ts <| And.intro lo_Ts <| And.intro al_Ts <| And.intro cl_Ts <| And.intro @gd_T @ge_T
mutual
def size:Te→Nat
 |.mk _ _ _ _ _ _ l=>1 + sizes l
def sizes:List Te→Nat
 |[]=>0
 |t::l=>size t + sizes l
end
mutual
def depth:Te→Nat
 |.mk _ _ _ _ _ _ l=>depths l + 1
def depths:List Te→Nat
 |[]=>0
 |t::l=>max (depth t) (depths l)
end
mutual
def nodesT:Te→List Te
 |.mk k w b s lo e l=>.mk k w b s lo e l::nodesL l
def nodesL:List Te→List Te
 |[]=>[]
 |t::l=>nodesT t ++ nodesL l
end
theorem size_eq (t:Te):size t=1 + sizes t.l:=by cases t;rfl
theorem depth_eq (t:Te):depth t=depths t.l + 1:=by cases t;rfl
theorem nodes_eq (t:Te):nodesT t=t::nodesL t.l:=by cases t;rfl
theorem sizes_cons (t:Te) (l:List Te):sizes (t::l)=size t + sizes l:=rfl
theorem depths_cons (t:Te) (l:List Te):depths (t::l)=max (depth t) (depths l):=rfl
theorem nodesL_cons (t:Te) (l:List Te):nodesL (t::l)=nodesT t ++ nodesL l:=rfl
theorem sizes_mem {x:Te}:∀ {l:List Te},x ∈ l→size x ≤ sizes l:=by
 intro l
 induction l with
 |nil=>intro h;cases h
 |cons a l ih =>
  intro h
  rw [sizes_cons]
  rcases List.mem_cons.1 h with rfl | h
  ·omega
  ·have:=ih h;omega
theorem size_mem {t x:Te} (h:x ∈ t.l):size x < size t:=by
 rw [size_eq t];have:=sizes_mem h;omega
theorem nodesL_mem {x y:Te}:∀ {l:List Te},x ∈ l→y ∈ nodesT x→y ∈ nodesL l:=by
 intro l
 induction l with
 |nil=>intro h;cases h
 |cons a l ih =>
  intro h hy
  rw [nodesL_cons,List.mem_append]
  rcases List.mem_cons.1 h with rfl | h
  ·exact .inl hy
  ·exact .inr (ih h hy)
theorem size_pos (t:Te):1 ≤ size t:=by rw [size_eq];omega
theorem depth_pos (t:Te):1 ≤ depth t:=by rw [depth_eq];omega
theorem depths_mem {x:Te}:∀ {l:List Te},x ∈ l→depth x ≤ depths l:=by
 intro l
 induction l with
 |nil=>intro h;cases h
 |cons a l ih =>
  intro h
  rw [depths_cons]
  rcases List.mem_cons.1 h with rfl | h
  ·omega
  ·have:=ih h;omega
theorem depths_le {n:Nat}:∀ {l:List Te},(∀ x ∈ l,depth x ≤ n)→depths l ≤ n:=by
 intro l
 induction l with
 |nil=>intro _;exact Nat.zero_le _
 |cons a l ih =>
  intro h
  rw [depths_cons]
  have:=h a (by simp);have:=ih fun x hx=>h x (by simp [hx]);omega
theorem depth_size (t:Te):depth t ≤ size t:=by
 induction t using Tm'.ind with | h t ih =>
 rw [depth_eq,size_eq]
 have:=depths_le (l:=t.l) (n:=sizes t.l) fun x hx=>Nat.le_trans (ih x hx) (sizes_mem hx)
 omega
theorem sizes_len (l:List Te):l.length ≤ sizes l:=by
 induction l with
 |nil=>simp [sizes]
 |cons a l ih=>rw [sizes_cons,List.length_cons];have:=size_pos a;omega
theorem nodesT_len (t:Te):(nodesT t).length=size t:=by
 induction t using Tm'.ind with | h t ih =>
 rw [nodes_eq,size_eq]
 have:∀ l:List Te,(∀ x ∈ l,(nodesT x).length=size x)→(nodesL l).length=sizes l:=by
  intro l
  induction l with
  |nil=>intro _;rfl
  |cons a l ihl=>intro h;rw [nodesL_cons,List.length_append,h a (by simp),ihl fun x hx=>h x (by simp [hx])];rfl
 simp only [List.length_cons,this t.l ih];omega
theorem nodes_size {t x:Te} (h:x ∈ nodesT t):size x ≤ size t:=by
 induction t using Tm'.ind with | h t ih =>
 rw [nodes_eq] at h
 rcases List.mem_cons.1 h with rfl | h
 ·exact Nat.le_refl _
 ·have:∀ l:List Te,(∀ y ∈ l,x ∈ nodesT y→size x ≤ size y)→x ∈ nodesL l→size x ≤ sizes l:=by
   intro l
   induction l with
   |nil=>intro _ h;cases h
   |cons a l ihl =>
    intro hy h
    rw [nodesL_cons,List.mem_append] at h
    rw [sizes_cons]
    rcases h with h | h
    ·have:=hy a (by simp) h;omega
    ·have:=ihl (fun y hy'=>hy y (by simp [hy'])) h;omega
  have:=this t.l ih h
  rw [size_eq t];omega
theorem nodes_len {t x:Te} (h:x ∈ nodesT t):x.l.length ≤ size t:=by
 have h1:=nodes_size h;have h2:=sizes_len x.l;rw [size_eq] at h1;omega
theorem mem_nodes (t:Te):t ∈ nodesT t:=by rw [nodes_eq];simp
theorem nodes_sub {t x y:Te} (hx:x ∈ t.l) (hy:y ∈ nodesT x):y ∈ nodesT t:=by
 rw [nodes_eq];exact List.mem_cons_of_mem _ (nodesL_mem hx hy)
mutual
def sameT:Te→Te→Bool
 |.mk k w b s lo _ l,.mk k' w' b' s' lo' _ l'=>decide (k=k') && decide (w=w') && decide (b=b') && (s == s') && decide (lo=lo') && sameL l l'
def sameL:List Te→List Te→Bool
 |[],[]=>true
 |a::l,b::m=>sameT a b && sameL l m
 |_,_=>false
end
theorem sameT_eq (a b:Te):sameT a b=(decide (a.k=b.k) && decide (a.w=b.w) && decide (a.b=b.b) && (a.s == b.s) && decide (a.lo=b.lo) && sameL a.l b.l):=by cases a;cases b;rfl
theorem sameL_len:∀ {l m:List Te},sameL l m=true→l.length=m.length:=by
 intro l
 induction l with
 |nil=>intro m h;cases m with | nil=>rfl | cons=>simp [sameL] at h
 |cons a l ih =>
  intro m h
  cases m with
  |nil=>simp [sameL] at h
  |cons b m=>simp only [sameL,Bool.and_eq_true] at h;simp [ih h.2]
theorem sameL_drop {l m:List Te} {i:Nat} (h1:i < l.length) (h2:i < m.length):sameL (l.drop i) (m.drop i)=(sameT (l.getD i default) (m.getD i default) && sameL (l.drop (i + 1)) (m.drop (i + 1))):=by
 rw [drop_getD h1,drop_getD h2];rfl
def nodeT (x:Te):Prop:=(0 ≤ x.k∧x.k < 256)∧(-9223372036854775808 ≤ x.w∧x.w ≤ 9223372036854775807)∧(0 ≤ x.b∧x.b < 18446744073709551616)∧x.s.length ≤ 9223372036854775807∧(-9223372036854775808 ≤ x.lo∧x.lo ≤ 9223372036854775807)∧x.l.length ≤ 9223372036854775807
def TOk (t:Te):Prop:=∀ x ∈ nodesT t,nodeT x
theorem TOk.sub {t x:Te} (h:TOk t) (hx:x ∈ t.l):TOk x:=fun y hy=>h y (nodes_sub hx hy)
theorem TOk.self {t:Te} (h:TOk t):nodeT t:=h t (mem_nodes t)
theorem sizes_drop {l:List Te} {i:Nat} (h:i < l.length):sizes (l.drop i)=size (l.getD i default) + sizes (l.drop (i + 1)):=by rw [drop_getD h,sizes_cons]
theorem depths_drop {l:List Te} {i:Nat} (h:i < l.length):depths (l.drop i)=max (depth (l.getD i default)) (depths (l.drop (i + 1))):=by rw [drop_getD h,depths_cons]
theorem nodesL_iff {l:List Te} {y:Te}:y ∈ nodesL l ↔ ∃ x ∈ l,y ∈ nodesT x:=by
 induction l with
 |nil=>simp [nodesL]
 |cons a l ih=>simp [nodesL_cons,ih]
theorem all_nodes {p:Te→Prop} {t:Te}:(∀ x ∈ nodesT t,p x) ↔ p t∧∀ x ∈ t.l,∀ y ∈ nodesT x,p y:=by
 rw [nodes_eq]
 constructor
 ·intro h;exact ⟨h t (by simp),fun x hx y hy=>h y (by simp [nodesL_iff];exact .inr ⟨x,hx,hy⟩)⟩
 ·rintro ⟨h1,h2⟩ x hx
  rcases List.mem_cons.1 hx with rfl | hx
  ·exact h1
  ·obtain ⟨y,hy,hxy⟩:=nodesL_iff.1 hx;exact h2 y hy x hxy
end Go.FI
namespace Go.FI
theorem wrapu {n:Int} (h:0 ≤ n):IntKind.u64.wrap n=n % 18446744073709551616:=by
 simp [IntKind.wrap,IntKind.bits,IntKind.signed]
theorem toNat_ofInt {a:Int} (h0:0 ≤ a) (h1:a < 18446744073709551616):(BitVec.ofInt 64 a).toNat=a.toNat:=by
 rw [BitVec.toNat_ofInt];omega
theorem band_nat {a b:Int} (ha:0 ≤ a) (ha':a < 18446744073709551616) (hb:0 ≤ b) (hb':b < 18446744073709551616):band .u64 a b=((a.toNat &&& b.toNat:Nat):Int):=by
 have e:(BitVec.ofInt IntKind.u64.bits a &&& BitVec.ofInt IntKind.u64.bits b).toNat=a.toNat &&& b.toNat:=by
  rw [BitVec.toNat_and];rw [show IntKind.u64.bits=64 from rfl,toNat_ofInt ha ha',toNat_ofInt hb hb']
 unfold band
 rw [e]
 have:a.toNat &&& b.toNat ≤ a.toNat:=Nat.and_le_left
 rw [wrapu (by omega)];omega
theorem or_lt64 {a b:Nat} (ha:a < 18446744073709551616) (hb:b < 18446744073709551616):a ||| b < 18446744073709551616:=Nat.or_lt_two_pow (n:=64) ha hb
theorem bor_nat {a b:Int} (ha:0 ≤ a) (ha':a < 18446744073709551616) (hb:0 ≤ b) (hb':b < 18446744073709551616):bor .u64 a b=((a.toNat ||| b.toNat:Nat):Int):=by
 have e:(BitVec.ofInt IntKind.u64.bits a ||| BitVec.ofInt IntKind.u64.bits b).toNat=a.toNat ||| b.toNat:=by
  rw [BitVec.toNat_or];rw [show IntKind.u64.bits=64 from rfl,toNat_ofInt ha ha',toNat_ofInt hb hb']
 unfold bor
 rw [e]
 have:=or_lt64 (a:=a.toNat) (b:=b.toNat) (by omega) (by omega)
 rw [wrapu (by omega)];omega
theorem pow_pos' (n:Nat):(0:Int) < 2 ^ n:=Int.pow_pos (by decide)
theorem pow_nat (n:Nat):((2 ^ n:Nat):Int)=2 ^ n:=by simp
theorem pow_le {m n:Nat} (h:m ≤ n):(2:Int) ^ m ≤ 2 ^ n:=by
 rw [← pow_nat,← pow_nat];exact Int.ofNat_le.2 (Nat.pow_le_pow_right (by decide) h)
theorem pow64 {n:Nat} (h:n ≤ 64):(2:Int) ^ n ≤ 18446744073709551616:=pow_le h
theorem band_mask {a:Int} {n:Nat} (ha:0 ≤ a) (ha':a < 18446744073709551616) (hn:n ≤ 64):band .u64 a (2 ^ n - 1)=a % 2 ^ n:=by
 have h1:=pow64 hn
 have h2:=pow_pos' n
 rw [band_nat ha ha' (by omega) (by omega)]
 have e:((2:Int) ^ n - 1).toNat=2 ^ n - 1:=by
  rw [← pow_nat];omega
 rw [e,Nat.and_two_pow_sub_one_eq_mod]
 rw [Int.natCast_emod,pow_nat]
 congr 1;omega
theorem shr_mask {n:Nat} (h:n ≤ 64):shr .u64 18446744073709551615 (64 - (n:Int))=2 ^ n - 1:=by
 have:∀ n:Nat,n < 65→shr .u64 18446744073709551615 (64 - n)=2 ^ n - 1:=by decide +kernel
 exact this n (by omega)
theorem shr_nat {a:Int} {n:Nat} (ha:0 ≤ a) (hn:n ≤ 64):shr .u64 a n=((a.toNat >>> n:Nat):Int):=by
 unfold shr
 have:min ((n:Int).toNat) IntKind.u64.bits=n:=by rw [Int.toNat_natCast];exact Nat.min_eq_left hn
 rw [this,Nat.shiftRight_eq_div_pow,Int.natCast_ediv,pow_nat,Int.fdiv_eq_ediv_of_nonneg _ (by have:=pow_pos' n;omega)]
 congr 1;omega
theorem shl_nat {a:Int} {n:Nat} (ha:0 ≤ a) (hn:n ≤ 64) (hb:a * 2 ^ n < 18446744073709551616):shl .u64 a n=((a.toNat <<< n:Nat):Int):=by
 unfold shl
 have:min ((n:Int).toNat) IntKind.u64.bits=n:=by rw [Int.toNat_natCast];exact Nat.min_eq_left hn
 have h0:0 ≤ a * 2 ^ n:=Int.mul_nonneg ha (by have:=pow_pos' n;omega)
 rw [this,wrapu h0,Nat.shiftLeft_eq,Int.natCast_mul,pow_nat]
 rw [show ((a.toNat:Nat):Int)=a by omega]
 omega
end Go.FI
namespace Go.FI
def foldE {α β γ:Type} (g:α→γ→α ⊕ β):α→List γ→α ⊕ β
 |a,[]=>.inl a
 |a,x::xs=>match g a x with
  |.inl a'=>foldE g a' xs
  |.inr b=>.inr b
theorem foldE_app {α β γ:Type} (g:α→γ→α ⊕ β):∀ (xs ys:List γ) (a:α),foldE g a (xs ++ ys)=match foldE g a xs with
  |.inl a'=>foldE g a' ys
  |.inr b=>.inr b:=by
 intro xs
 induction xs with
 |nil=>intro ys a;rfl
 |cons x xs ih =>
  intro ys a
  simp only [List.cons_append,foldE]
  cases g a x with
  |inl a'=>exact ih ys a'
  |inr b=>rfl
theorem foldE_count {γ:Type}:∀ (xs:List γ) (n:Int),foldE (β:=Empty) (fun n _=>.inl (n + 1)) n xs=.inl (n + xs.length):=by
 intro xs
 induction xs with
 |nil=>intro n;simp [foldE]
 |cons x xs ih=>intro n;simp only [foldE,ih,List.length_cons];congr 1;omega
theorem wrap_add (a b:Int):IntKind.i64.wrap (IntKind.i64.wrap a + b)=IntKind.i64.wrap (a + b):=by
 simp [IntKind.wrap,IntKind.bits,IntKind.signed]
 (repeat' split)<;>omega
def Fr (b0:Nat) (h h':Heap) (nx nx':Nat):Prop:=nx ≤ nx'∧∀ i,b0 ≤ i→i < nx→hget h' i=hget h i
theorem Fr.refl (b0:Nat) (h:Heap) (nx:Nat):Fr b0 h h nx nx:=⟨Nat.le_refl _,fun _ _ _=>rfl⟩
theorem Fr.trans {b0:Nat} {h h' h'':Heap} {nx nx' nx'':Nat} (h1:Fr b0 h h' nx nx') (h2:Fr b0 h' h'' nx' nx''):Fr b0 h h'' nx nx'' :=
 ⟨Nat.le_trans h1.1 h2.1,fun i hi hl=>by have:=h1.1;rw [h2.2 i hi (by omega),h1.2 i hi hl]⟩
def ResR {α β:Type} (b0:Nat) (h:Heap) (nx:Nat) (P:α→Heap→Prop) (Q:β→Heap→Prop) (r:FV × Heap × Nat):α ⊕ β→Prop
 |.inl a=>r.1=.bool true∧P a r.2.1∧Fr b0 h r.2.1 nx r.2.2
 |.inr b=>r.1=.bool false∧Q b r.2.1∧Fr b0 h r.2.1 nx r.2.2
def Keeps {α:Type} (b0:Nat) (P:α→Heap→Prop):Prop:=∀ a h h',P a h→(∀ i,i < b0→hget h' i=hget h i)→P a h'
theorem Fr.ext {b0:Nat} {h h1 h':Heap} {nx nx1 nx':Nat} (h2:Fr b0 h1 h' nx1 nx') (hn:nx ≤ nx1) (he:∀ i,i < nx→hget h1 i=hget h i):Fr b0 h h' nx nx' :=
 ⟨Nat.le_trans hn h2.1,fun i hi hl=>by rw [h2.2 i hi (by omega),he i hl]⟩
theorem ResR.base {α β:Type} {b0:Nat} {h h1:Heap} {nx nx1:Nat} {P:α→Heap→Prop} {Q:β→Heap→Prop} {r:FV × Heap × Nat} {s:α ⊕ β} (hf:Fr b0 h h1 nx nx1) (hr:ResR b0 h1 nx1 P Q r s):ResR b0 h nx P Q r s:=by
 cases s with
 |inl a=>exact ⟨hr.1,hr.2.1,hf.trans hr.2.2⟩
 |inr b=>exact ⟨hr.1,hr.2.1,hf.trans hr.2.2⟩
theorem Fr.up {b0:Nat} {h h1:Heap} {nx nx1:Nat} (hn:nx ≤ nx1) (he:∀ i,i < nx→hget h1 i=hget h i):Fr b0 h h1 nx nx1:=⟨hn,fun i _ hl=>he i hl⟩
theorem Ok_post {α β:Type} {x:Option α} {f:α→Option β} {p q:α→β→Prop} (h:@Ok α x ⟨fun a=>@Ok β (f a) ⟨p a⟩⟩) (hq:∀ a b,p a b→q a b):@Ok α x ⟨fun a=>@Ok β (f a) ⟨q a⟩⟩:=by
 obtain ⟨a,h1,b,h2,h3⟩:=h
 exact ⟨a,h1,b,h2,hq a b h3⟩
theorem hgx {i j:Nat} {o:Obj} {h:Heap}:hget (hset h i o) j=if i=j then (hget h i).map (fun _=>o) else hget h j:=by
 split
 ·rename_i e;subst e
  cases hg:hget h i with
  |none =>
   have:∀ h:Heap,hget h i=none→hget (hset h i o) i=none:=by
    intro h
    induction h with
    |nil=>intro _;rfl
    |cons p h ih =>
     obtain ⟨k,v⟩:=p
     intro hh
     simp only [hget] at hh
     split at hh
     ·cases hh
     ·rename_i e;simp only [hset,if_neg e,hget];exact ih hh
   rw [this h hg];rfl
  |some q=>rw [hgs_eq hg];rfl
 ·rename_i e;exact hgs_ne e
theorem hgx_e {i:Nat} {o:Obj} {h:Heap}:hget (hset h i o) i=(hget h i).map (fun _=>o):=by rw [hgx,if_pos rfl]
abbrev Env0:=List (List UInt8 × Int)
def kvV (p:List UInt8 × Int):FV × FV:=(.str p.1,.int .i64 p.2)
def lkE:Env0→List UInt8→Option Int
 |[],_=>none
 |(n,w)::r,s=>if s=n then some w else lkE r s
theorem find_E (s:List UInt8):∀ en:Env0,FI.find 1 (.str s) (en.map kvV)=some ((lkE en s).map (.int .i64)):=by
 intro en
 induction en with
 |nil=>rfl
 |cons p en ih =>
  obtain ⟨n,w⟩:=p
  simp only [List.map_cons,kvV,FI.find,keyEq,bnd,lkE]
  by_cases e:s=n
  ·simp [e]
  ·rw [if_neg (by simpa using e),if_neg e]
   exact ih
theorem upd_N (s:List UInt8) (w:Int):∀ en:Env0,lkE en s=none→FI.update 1 (.str s) (.int .i64 w) (en.map kvV)=some ((en ++ [(s,w)]).map kvV):=by
 intro en
 induction en with
 |nil=>intro _;rfl
 |cons p en ih =>
  obtain ⟨n,v⟩:=p
  intro h
  simp only [lkE] at h
  by_cases e:s=n
  ·simp [e] at h
  ·simp only [if_neg e] at h
   have e':(s == n)=false:=by simpa using e
   simp only [List.map_cons,kvV,FI.update,keyEq,bnd,List.cons_append]
   rw [if_neg (by simp [e'])]
   have:=ih h
   simp only [List.map_append,List.map_cons,List.map_nil,kvV] at this ⊢
   rw [this]
theorem upd_S (s:List UInt8) (w:Int):∀ en:Env0,lkE en s=some w→FI.update 1 (.str s) (.int .i64 w) (en.map kvV)=some (en.map kvV):=by
 intro en
 induction en with
 |nil=>intro h;cases h
 |cons p en ih =>
  obtain ⟨n,v⟩:=p
  intro h
  simp only [lkE] at h
  by_cases e:s=n
  ·subst e;simp at h;subst h;simp [kvV,FI.update,keyEq,bnd]
  ·simp only [if_neg e] at h
   have e':(s == n)=false:=by simpa using e
   simp only [List.map_cons,kvV,FI.update,keyEq,bnd]
   rw [if_neg (by simp [e'])]
   have:=ih h
   rw [this]
def varG (en:Env0) (x:Te):Env0 ⊕ Unit :=
 if x.k=2 then match lkE en x.s with
  |none=>.inl (en ++ [(x.s,x.w)])
  |some w=>if w=x.w then .inl en else .inr ()
 else .inl en
def varsE (t:Te):Env0 ⊕ Unit:=foldE varG [] (nodesT t)
def varL:List Te→Env0
 |[]=>[]
 |x::xs=>if x.k=2 then (x.s,x.w)::varL xs else varL xs
def Cons (L:Env0):Prop:=∀ s v w,(s,v) ∈ L→(s,w) ∈ L→v=w
theorem Cons.sub {L M:Env0} (h:Cons L) (hs:∀ p ∈ M,p ∈ L):Cons M:=fun s v w h1 h2=>h s v w (hs _ h1) (hs _ h2)
def Knows (en L:Env0):Prop:=∀ s w,lkE en s=some w ↔ (s,w) ∈ L
theorem lkE_app (s:List UInt8) (n:List UInt8) (w:Int):∀ en:Env0,lkE (en ++ [(n,w)]) s=match lkE en s with | some v=>some v | none=>if s=n then some w else none:=by
 intro en
 induction en with
 |nil=>simp only [List.nil_append,lkE]
 |cons p en ih =>
  obtain ⟨m,v⟩:=p
  simp only [List.cons_append,lkE]
  by_cases e:s=m
  ·rw [if_pos e,if_pos e]
  ·rw [if_neg e,if_neg e];exact ih
theorem var_run:∀ (xs:List Te) (en L:Env0),Cons L→Knows en L→match foldE varG en xs with
  |.inl en'=>Cons (L ++ varL xs)∧Knows en' (L ++ varL xs)
  |.inr _=>¬ Cons (L ++ varL xs):=by
 intro xs
 induction xs with
 |nil=>intro en L h1 h2;simp only [foldE,varL,List.append_nil];exact ⟨h1,h2⟩
 |cons x xs ih =>
  intro en L h1 h2
  by_cases hk:x.k=2
  ·cases hl:lkE en x.s with
   |none =>
    have hg:varG en x=.inl (en ++ [(x.s,x.w)]):=by simp [varG,hk,hl]
    have hno:∀ w,(x.s,w) ∉ L:=fun w hw=>by have:=(h2 x.s w).2 hw;rw [hl] at this;cases this
    have:=ih (en ++ [(x.s,x.w)]) (L ++ [(x.s,x.w)]) (fun s v w hv hw=>by
     simp only [List.mem_append,List.mem_singleton,Prod.mk.injEq] at hv hw
     rcases hv with hv | ⟨rfl,rfl⟩<;>rcases hw with hw | ⟨e,rfl⟩
     ·exact h1 s v w hv hw
     ·subst e;exact absurd hv (hno v)
     ·exact absurd hw (hno w)
     ·rfl) (fun s w=>by
     rw [lkE_app]
     simp only [List.mem_append,List.mem_singleton,Prod.mk.injEq]
     cases hs:lkE en s with
     |some v =>
      have hv:=(h2 s v).1 hs
      simp only [Option.some.injEq]
      constructor
      ·rintro rfl;exact .inl hv
      ·rintro (hw | ⟨rfl,rfl⟩)
       ·exact h1 s v w hv hw
       ·exact absurd hv (hno v)
     |none =>
      have hn:∀ w,(s,w) ∉ L:=fun w hw=>by have:=(h2 s w).2 hw;rw [hs] at this;cases this
      by_cases e:s=x.s
      ·simp only [e,if_true,Option.some.injEq]
       constructor
       ·rintro rfl;exact .inr ⟨trivial,rfl⟩
       ·rintro (hw | ⟨_,rfl⟩)
        ·exact absurd hw (hno w)
        ·rfl
      ·simp only [e,if_false]
       constructor
       ·intro h;cases h
       ·rintro (hw | ⟨h,_⟩)
        ·exact absurd hw (hn w)
        ·exact h.elim)
    simp only [foldE,hg,varL,hk,if_true]
    rw [show L ++ (x.s,x.w)::varL xs=(L ++ [(x.s,x.w)]) ++ varL xs by simp]
    exact this
   |some w =>
    have hw:=(h2 x.s w).1 hl
    by_cases e:w=x.w
    ·have hg:varG en x=.inl en:=by simp [varG,hk,hl,e]
     have:=ih en (L ++ [(x.s,x.w)]) (h1.sub (fun p hp=>by
      simp only [List.mem_append,List.mem_singleton] at hp
      rcases hp with hp | rfl
      ·exact hp
      ·rw [← e];exact hw)) (fun s v=>by
      rw [h2]
      simp only [List.mem_append,List.mem_singleton,Prod.mk.injEq]
      constructor
      ·exact .inl
      ·rintro (h | ⟨rfl,rfl⟩)
       ·exact h
       ·rw [← e];exact hw)
     simp only [foldE,hg,varL,hk,if_true]
     rw [show L ++ (x.s,x.w)::varL xs=(L ++ [(x.s,x.w)]) ++ varL xs by simp]
     exact this
    ·have hg:varG en x=.inr ():=by simp [varG,hk,hl,e]
     simp only [foldE,hg,varL,hk,if_true]
     intro hc
     exact e (hc x.s w x.w (by simp [hw]) (by simp))
  ·have hg:varG en x=.inl en:=by simp [varG,hk]
   simp only [foldE,hg,varL,hk,if_false]
   exact ih en L h1 h2
def varList (t:Te):Env0:=varL (nodesT t)
theorem varsE_in {t:Te} {en:Env0} (h:varsE t=.inl en):Cons (varList t)∧Knows en (varList t):=by
 have:=var_run (nodesT t) [] [] (fun s v w h=>by cases h) (fun s w=>by simp [lkE])
 unfold varsE at h
 rw [h] at this
 simpa [varList] using this
theorem varsE_no {t:Te} (h:varsE t=.inr ()):¬ Cons (varList t):=by
 have:=var_run (nodesT t) [] [] (fun s v w h=>by cases h) (fun s w=>by simp [lkE])
 unfold varsE at h
 rw [h] at this
 simpa [varList] using this
theorem varL_len:∀ xs:List Te,(varL xs).length ≤ xs.length:=by
 intro xs
 induction xs with
 |nil=>exact Nat.le_refl _
 |cons x xs ih=>simp only [varL];split<;>simp only [List.length_cons]<;>omega
end Go.FI
namespace Go.FI
mutual
def er:Te→Te
 |.mk k w b s lo _ l=>.mk k w b s lo false (ers l)
def ers:List Te→List Te
 |[]=>[]
 |t::l=>er t::ers l
end
theorem ers_map (l:List Te):ers l=l.map er:=by
 induction l with
 |nil=>rfl
 |cons t l ih=>simp only [ers,List.map_cons,ih]
theorem er_k (t:Te):(er t).k=t.k:=by cases t;rfl
theorem er_w (t:Te):(er t).w=t.w:=by cases t;rfl
theorem er_b (t:Te):(er t).b=t.b:=by cases t;rfl
theorem er_s (t:Te):(er t).s=t.s:=by cases t;rfl
theorem er_lo (t:Te):(er t).lo=t.lo:=by cases t;rfl
theorem er_l (t:Te):(er t).l=t.l.map er:=by cases t;simp only [er,Tm'.l,ers_map]
theorem er_eq (t:Te):er t=.mk t.k t.w t.b t.s t.lo false (t.l.map er):=by cases t;simp only [er,Tm'.k,Tm'.w,Tm'.b,Tm'.s,Tm'.lo,Tm'.l,ers_map]
theorem er_er (t:Te):er (er t)=er t:=by
 induction t using Tm'.ind with | h t ih =>
 rw [er_eq (er t),er_k,er_w,er_b,er_s,er_lo,er_l,List.map_map,er_eq t]
 congr 1
 exact List.map_congr_left fun x hx=>ih x hx
theorem sizes_er {l:List Te} (h:∀ x ∈ l,size (er x)=size x):sizes (l.map er)=sizes l:=by
 induction l with
 |nil=>rfl
 |cons a l ih=>rw [List.map_cons,sizes_cons,sizes_cons,h a (by simp),ih fun x hx=>h x (by simp [hx])]
theorem size_er (t:Te):size (er t)=size t:=by
 induction t using Tm'.ind with | h t ih=>rw [size_eq,er_l,sizes_er ih,← size_eq]
theorem depths_er {l:List Te} (h:∀ x ∈ l,depth (er x)=depth x):depths (l.map er)=depths l:=by
 induction l with
 |nil=>rfl
 |cons a l ih=>rw [List.map_cons,depths_cons,depths_cons,h a (by simp),ih fun x hx=>h x (by simp [hx])]
theorem depth_er (t:Te):depth (er t)=depth t:=by
 induction t using Tm'.ind with | h t ih=>rw [depth_eq,er_l,depths_er ih,← depth_eq]
theorem nodesL_er {l:List Te} (h:∀ x ∈ l,nodesT (er x)=(nodesT x).map er):nodesL (l.map er)=(nodesL l).map er:=by
 induction l with
 |nil=>rfl
 |cons a l ih=>rw [List.map_cons,nodesL_cons,nodesL_cons,List.map_append,h a (by simp),ih fun x hx=>h x (by simp [hx])]
theorem nodes_er (t:Te):nodesT (er t)=(nodesT t).map er:=by
 induction t using Tm'.ind with | h t ih=>rw [nodes_eq,er_l,nodesL_er ih,nodes_eq t];rfl
theorem sameL_map {l m:List Te} (h:∀ x ∈ l,∀ y ∈ m,er x=er y→sameT x y=true) (e:l.map er=m.map er):sameL l m=true:=by
 induction l generalizing m with
 |nil=>cases m with | nil=>rfl | cons=>simp at e
 |cons a l ih =>
  cases m with
  |nil=>simp at e
  |cons b m =>
   simp only [List.map_cons,List.cons.injEq] at e
   simp only [sameL,h a (by simp) b (by simp) e.1,ih (fun x hx y hy=>h x (by simp [hx]) y (by simp [hy])) e.2,Bool.and_self]
theorem same_er (a:Te):∀ b:Te,er a=er b→sameT a b=true:=by
 induction a using Tm'.ind with | h a ih =>
 intro b e
 have hk:(er a).k=(er b).k:=by rw [e]
 have hw:(er a).w=(er b).w:=by rw [e]
 have hb:(er a).b=(er b).b:=by rw [e]
 have hs:(er a).s=(er b).s:=by rw [e]
 have hlo:(er a).lo=(er b).lo:=by rw [e]
 have hl:(er a).l=(er b).l:=by rw [e]
 rw [er_k,er_k] at hk;rw [er_w,er_w] at hw;rw [er_b,er_b] at hb;rw [er_s,er_s] at hs;rw [er_lo,er_lo] at hlo;rw [er_l,er_l] at hl
 rw [sameT_eq,sameL_map (fun x hx y _=>ih x hx y) hl]
 simp [hk,hw,hb,hs,hlo]
theorem varG_er (en:Env0) (x:Te):varG en (er x)=varG en x:=by unfold varG;rw [er_k,er_s,er_w]
theorem foldE_er:∀ (xs:List Te) (en:Env0),foldE varG en (xs.map er)=foldE varG en xs:=by
 intro xs
 induction xs with
 |nil=>intro en;rfl
 |cons x xs ih =>
  intro en
  simp only [List.map_cons,foldE,varG_er]
  cases varG en x with
  |inl en'=>exact ih en'
  |inr u=>rfl
theorem varsE_er (t:Te):varsE (er t)=varsE t:=by unfold varsE;rw [nodes_er,foldE_er]
mutual
def RpT (h:Heap) (a b:Nat):FV→Te→Prop
 |v,.mk k w bt s lo _ l=>∃ c,v=.agg [.int .u8 k,.int .i64 w,.int .u64 bt,.str s,.int .i64 lo,c]∧((∃ e,c=.lst e []∧l=[]) ∨ ∃ id xs,c=.sref 6 id l.length 0 l.length∧a ≤ id∧id < b∧hget h id=some (.row 6 xs)∧RpL h a b xs l)
def RpL (h:Heap) (a b:Nat):List FV→List Te→Prop
 |[],[]=>True
 |x::xs,t::l=>RpT h a b x t∧RpL h a b xs l
 |_,_=>False
end
def RpS (h:Heap) (a b:Nat) (c:FV) (l:List Te):Prop:=(∃ e,c=.lst e []∧l=[]) ∨ ∃ id xs,c=.sref 6 id l.length 0 l.length∧a ≤ id∧id < b∧hget h id=some (.row 6 xs)∧RpL h a b xs l
theorem RpT_iff {h:Heap} {a b:Nat} {v:FV} {t:Te}:RpT h a b v t ↔ ∃ c,v=.agg [.int .u8 t.k,.int .i64 t.w,.int .u64 t.b,.str t.s,.int .i64 t.lo,c]∧RpS h a b c t.l:=by
 cases t;simp only [RpT,RpS,Tm'.k,Tm'.w,Tm'.b,Tm'.s,Tm'.lo,Tm'.l]
theorem RpL.length {h:Heap} {a b:Nat}:∀ {xs:List FV} {l:List Te},RpL h a b xs l→xs.length=l.length:=by
 intro xs
 induction xs with
 |nil=>intro l hl;cases l with | nil=>rfl | cons=>exact hl.elim
 |cons x xs ih=>intro l hl;cases l with | nil=>exact hl.elim | cons t l=>simp [ih hl.2]
theorem RpL.mono' {h h':Heap} {a b a' b':Nat}:∀ {l:List Te},(∀ t ∈ l,∀ v,RpT h a b v t→RpT h' a' b' v t)→∀ {xs:List FV},RpL h a b xs l→RpL h' a' b' xs l:=by
 intro l
 induction l with
 |nil=>intro _ xs hl;cases xs with | nil=>trivial | cons=>exact hl.elim
 |cons t l ih=>intro ht xs hl;cases xs with | nil=>exact hl.elim | cons x xs=>exact ⟨ht t (by simp) x hl.1,ih (fun t' h'=>ht t' (by simp [h'])) hl.2⟩
theorem RpT.mono {h h':Heap} {a b a' b':Nat} (ha:a' ≤ a) (hb:b ≤ b') (hh:∀ i,a ≤ i→i < b→hget h' i=hget h i) {t:Te}:∀ {v:FV},RpT h a b v t→RpT h' a' b' v t:=by
 induction t using Tm'.ind with | h t ih =>
 intro v hv
 obtain ⟨c,h1,hc⟩:=RpT_iff.1 hv
 refine RpT_iff.2 ⟨c,h1,?_⟩
 rcases hc with hc | ⟨id,xs,h1,h2,h3,h4,h5⟩
 ·exact .inl hc
 ·exact .inr ⟨id,xs,h1,by omega,by omega,by rw [hh id h2 h3];exact h4,RpL.mono' (fun x hx v hv=>ih x hx hv) h5⟩
theorem RpL.mono {h h':Heap} {a b a' b':Nat} (ha:a' ≤ a) (hb:b ≤ b') (hh:∀ i,a ≤ i→i < b→hget h' i=hget h i) {xs:List FV} {l:List Te} (hl:RpL h a b xs l):RpL h' a' b' xs l :=
 RpL.mono' (fun _ _ _ hv=>hv.mono ha hb hh) hl
theorem RpS.mono {h h':Heap} {a b a' b':Nat} (ha:a' ≤ a) (hb:b ≤ b') (hh:∀ i,a ≤ i→i < b→hget h' i=hget h i) {c:FV} {l:List Te} (hl:RpS h a b c l):RpS h' a' b' c l:=by
 rcases hl with hc | ⟨id,xs,h1,h2,h3,h4,h5⟩
 ·exact .inl hc
 ·exact .inr ⟨id,xs,h1,by omega,by omega,by rw [hh id h2 h3];exact h4,h5.mono ha hb hh⟩
theorem frzs_c' {h:Heap} {n:Nat} {v v':FV} {r r':List FV} (h1:frz h n v=some v') (h2:frzs h n r=some r'):frzs h (n + 1) (v::r)=some (v'::r'):=by rw [fzs_c,h1,B_some,h2,B_some]
theorem RpL.frz' {h:Heap} {a b:Nat}:∀ {l:List Te},(∀ t ∈ l,∀ v n,RpT h a b v t→10 * size t ≤ n→∃ t',er t'=er t∧frz h n v=some (tV t'))→∀ {xs:List FV} {n:Nat},RpL h a b xs l→10 * sizes l + 1 ≤ n→∃ l':List Te,l'.map er=l.map er∧frzs h n xs=some (l'.map tV):=by
 intro l
 induction l with
 |nil=>intro _ xs n hl _;cases xs with | nil=>exact ⟨[],rfl,fzs_n⟩ | cons=>exact hl.elim
 |cons t l ih =>
  intro ht xs n hl hn
  cases xs with
  |nil=>exact hl.elim
  |cons x xs =>
   rw [sizes_cons] at hn
   have:=size_pos t
   obtain ⟨m,rfl⟩:∃ m,n=m + 1:=⟨n - 1,by omega⟩
   obtain ⟨t',e1,h1⟩:=ht t (by simp) x m hl.1 (by omega)
   obtain ⟨l',e2,h2⟩:=ih (fun t' h'=>ht t' (by simp [h'])) (n:=m) hl.2 (by omega)
   exact ⟨t'::l',by simp [e1,e2],frzs_c' h1 h2⟩
theorem RpT.frz {h:Heap} {a b:Nat} {t:Te}:∀ {v:FV} {n:Nat},RpT h a b v t→10 * size t ≤ n→∃ t',er t'=er t∧FI.frz h n v=some (tV t'):=by
 induction t using Tm'.ind with | h t ih =>
 intro v n hv hn
 obtain ⟨c,rfl,hc⟩:=RpT_iff.1 hv
 rw [size_eq] at hn
 obtain ⟨m,rfl⟩:∃ m,n=m + 8:=⟨n - 8,by omega⟩
 have key:∀ (e:Bool) (l':List Te),l'.map er=t.l.map er→FI.frz h (m + 1) c=some (.lst e (l'.map tV))→∃ t',er t'=er t∧FI.frz h (m + 8) (.agg [.int .u8 t.k,.int .i64 t.w,.int .u64 t.b,.str t.s,.int .i64 t.lo,c])=some (tV t'):=by
  intro e l' h1 h2
  have e3:tV (.mk t.k t.w t.b t.s t.lo e l')=.agg [.int .u8 t.k,.int .i64 t.w,.int .u64 t.b,.str t.s,.int .i64 t.lo,.lst e (l'.map tV)]:=by rw [tV_eq];rfl
  have e4:er (.mk t.k t.w t.b t.s t.lo e l')=er t:=by
   rw [er_eq t,er_eq,← h1];rfl
  refine ⟨.mk t.k t.w t.b t.s t.lo e l',e4,?_⟩
  rw [e3]
  rw [show m + 8=(m + 7) + 1 from rfl,fz_agg (by simp),frzs_c' (v':=.int .u8 t.k) (r':=[.int .i64 t.w,.int .u64 t.b,.str t.s,.int .i64 t.lo,.lst e (l'.map tV)]) frz_int]
  ·rfl
  rw [show m + 6=(m + 5) + 1 from rfl]
  refine frzs_c' frz_int ?_
  rw [show m + 5=(m + 4) + 1 from rfl]
  refine frzs_c' frz_int ?_
  rw [show m + 4=(m + 3) + 1 from rfl]
  refine frzs_c' frz_str ?_
  rw [show m + 3=(m + 2) + 1 from rfl]
  refine frzs_c' frz_int ?_
  rw [show m + 2=(m + 1) + 1 from rfl]
  exact frzs_c' h2 (by cases m<;>rfl)
 rcases hc with ⟨e,rfl,hl⟩ | ⟨id,xs,rfl,h2,h3,h4,h5⟩
 ·exact key e [] (by rw [hl]) (frz_pure rfl)
 ·obtain ⟨l',e2,hx⟩:=RpL.frz' (n:=m) (fun x hx v n hv hn=>ih x hx hv hn) h5 (by omega)
  have hlen:=h5.length
  refine key false l' e2 ?_
  rw [fz_ref (by decide),el_r,h4,elRow_r,Ck_pos ⟨hlen,by omega⟩,B_some,cut_d]
  have e:List.take (0 + t.l.length - 0) (List.drop 0 xs)=xs:=by rw [List.drop_zero];exact List.take_of_length_le (by omega)
  rw [e,hx,B_some]
theorem RpS.frz {h:Heap} {a b:Nat} {c:FV} {l:List Te} (hc:RpS h a b c l) {n:Nat} (hn:10 * sizes l + 2 ≤ n):∃ v,FI.frz h n c=some v∧∃ (e:Bool) (l':List Te),l'.map er=l.map er∧v=.lst e (l'.map tV):=by
 obtain ⟨m,rfl⟩:∃ m,n=m + 1:=⟨n - 1,by omega⟩
 rcases hc with ⟨e,rfl,hl⟩ | ⟨id,xs,rfl,h2,h3,h4,h5⟩
 ·exact ⟨_,frz_pure rfl,e,[],by rw [hl],rfl⟩
 ·obtain ⟨l',e2,hx⟩:=RpL.frz' (n:=m) (fun x hx v n hv hn=>hv.frz hn) h5 (by omega)
  have hlen:=h5.length
  refine ⟨_,?_,false,l',e2,rfl⟩
  rw [fz_ref (by decide),el_r,h4,elRow_r,Ck_pos ⟨hlen,by omega⟩,B_some,cut_d]
  have e:List.take (0 + l.length - 0) (List.drop 0 xs)=xs:=by rw [List.drop_zero];exact List.take_of_length_le (by omega)
  rw [e,hx,B_some]
def Ext (h h':Heap) (nx nx':Nat):Prop:=nx ≤ nx'∧∀ i,i < nx→hget h' i=hget h i
theorem Ext.refl (h:Heap) (nx:Nat):Ext h h nx nx:=⟨Nat.le_refl _,fun _ _=>rfl⟩
theorem Ext.trans {h h' h'':Heap} {nx nx' nx'':Nat} (h1:Ext h h' nx nx') (h2:Ext h' h'' nx' nx''):Ext h h'' nx nx'' :=
 ⟨Nat.le_trans h1.1 h2.1,fun i hi=>by have:=h1.1;rw [h2.2 i (by omega),h1.2 i hi]⟩
theorem take_succ {α:Type} [Inhabited α] {l:List α} {i:Nat} (h:i < l.length):l.take (i + 1)=l.take i ++ [l.getD i default]:=by
 rw [List.take_add_one];simp [List.getD,h]
end Go.FI
namespace Go.FI
mutual
def putT (n:List UInt8) (u:Te):Te→Te
 |.mk k w b s lo e l=>if k=2∧s=n then u else .mk k w b s lo false (putL n u l)
def putL (n:List UInt8) (u:Te):List Te→List Te
 |[]=>[]
 |t::l=>putT n u t::putL n u l
end
theorem putL_map (n:List UInt8) (u:Te) (l:List Te):putL n u l=l.map (putT n u):=by
 induction l with
 |nil=>rfl
 |cons t l ih=>simp only [putL,List.map_cons,ih]
theorem putT_eq (n:List UInt8) (u t:Te):putT n u t=if t.k=2∧t.s=n then u else .mk t.k t.w t.b t.s t.lo false (t.l.map (putT n u)):=by
 cases t with | mk k w b s lo e l=>rw [putT,putL_map];rfl
def occ (n:List UInt8):List Te→Nat
 |[]=>0
 |x::xs=>(if x.k=2∧x.s=n then 1 else 0) + occ n xs
def grG (n:List UInt8) (m:Int) (a:Int) (x:Te):Int ⊕ Empty:=.inl (a + ((if x.k=2∧x.s=n then m - 1 else 0) + 1))
theorem grG_run (n:List UInt8) (m:Int):∀ (xs:List Te) (a:Int),foldE (grG n m) a xs=.inl (a + (xs.length + occ n xs * (m - 1))):=by
 intro xs
 induction xs with
 |nil=>intro a;simp [foldE,occ]
 |cons x xs ih =>
  intro a
  simp only [foldE,grG]
  have:=ih (a + ((if x.k=2∧x.s=n then m - 1 else 0) + 1))
  rw [show foldE (grG n m) (a + ((if x.k=2∧x.s=n then m - 1 else 0) + 1)) xs=_ from this]
  congr 1
  simp only [occ,List.length_cons]
  split
  ·push_cast;rw [Int.add_mul];omega
  ·push_cast;rw [Int.zero_add (occ n xs:Int)];omega
theorem occ_le (n:List UInt8):∀ xs:List Te,occ n xs ≤ xs.length:=by
 intro xs
 induction xs with
 |nil=>exact Nat.le_refl _
 |cons x xs ih=>simp only [occ,List.length_cons];split<;>omega
theorem RpL.get {h:Heap} {a b:Nat}:∀ {xs:List FV} {l:List Te},RpL h a b xs l→∀ j,j < l.length→∃ a0 a1 a2 a3 a4 a5,xs[j]? = some (.agg [a0,a1,a2,a3,a4,a5]):=by
 intro xs
 induction xs with
 |nil=>intro l hl j hj;cases l with | nil=>simp at hj | cons=>exact hl.elim
 |cons x xs ih =>
  intro l hl j hj
  cases l with
  |nil=>exact hl.elim
  |cons t l =>
   cases j with
   |zero=>obtain ⟨c,rfl,_⟩:=RpT_iff.1 hl.1;exact ⟨_,_,_,_,_,_,rfl⟩
   |succ j=>exact ih hl.2 j (by simpa using hj)
end Go.FI
namespace Go.FI
open Go.Sort
abbrev Bd:=List UInt8 × Int
def bS (p:Bd):FV:=.agg [.str p.1,.int .i64 p.2,.int .u64 0]
def rowB (d:Array Bd):Obj:=.row 3 (d.toList.map bS)
def ltB (p q:Bd):Bool:=decide (Go.Lib.compareBytes p.1 q.1 < 0)
theorem ltB_eq {p q:Bd}:decide (Go.Lib.compareBytes p.1 q.1 < 0)=ltB p q:=rfl
theorem rb_get {d:Array Bd} {i:Nat} (h:i < d.size):(d.toList.map bS)[i]? = some (.agg [.str d[i]!.1,.int .i64 d[i]!.2,.int .u64 0]):=by
 simp [List.getElem?_map,h,bS]
theorem rb_len {d:Array Bd}:(d.toList.map bS).length=d.size:=by simp
theorem rb_set {d:Array Bd} {i:Nat} {x:Bd}:(d.toList.map bS).set i (.agg [.str x.1,.int .i64 x.2,.int .u64 0])=(d.setIfInBounds i x).toList.map bS:=by
 rw [Array.toList_setIfInBounds,List.map_set];rfl
theorem rb_swp {d:Array Bd} {i j:Nat}:(d.setIfInBounds i d[j]!).setIfInBounds j d[i]! = swp d i j:=rfl
theorem sz_set {d:Array Bd} {i:Nat} {x:Bd}:(d.setIfInBounds i x).size=d.size:=Array.size_setIfInBounds
theorem sz_swp {d:Array Bd} {i j:Nat}:(swp d i j).size=d.size:=by simp [swp]
theorem rb_get2 {d:Array Bd} {i k:Nat} {x:Bd} (h:i < d.size):((d.setIfInBounds k x).toList.map bS)[i]? = some (.agg [.str (d.setIfInBounds k x)[i]!.1,.int .i64 (d.setIfInBounds k x)[i]!.2,.int .u64 0]):=rb_get (by rw [sz_set];exact h)
theorem row_of {d:Array Bd}:rowB d=.row 3 (d.toList.map bS):=rfl
theorem SR:type_of% (And.intro @rb_get <| And.intro @rb_get2 <| And.intro @rb_len <| And.intro @rb_set <| And.intro @rb_swp <| And.intro @sz_set <| And.intro @sz_swp <| And.intro @Array.length_toList.{0} <| And.intro @hgx_e <| @Option.map_some.{0,0}):=And.intro @rb_get <| And.intro @rb_get2 <| And.intro @rb_len <| And.intro @rb_set <| And.intro @rb_swp <| And.intro @sz_set <| And.intro @sz_swp <| And.intro @Array.length_toList.{0} <| And.intro @hgx_e <| @Option.map_some.{0,0}
def RowR (h:Heap) (id:Nat) (d:Array Bd) (h':Heap):Prop:=hget h' id=some (rowB d)∧∀ i,i ≠ id→hget h' i=hget h i
theorem RowR.refl {h:Heap} {id:Nat} {d:Array Bd} (hr:hget h id=some (rowB d)):RowR h id d h:=⟨hr,fun _ _=>rfl⟩
theorem RowR.trans {h h1 h2:Heap} {id:Nat} {d d':Array Bd} (h1':RowR h id d h1) (h2':RowR h1 id d' h2):RowR h id d' h2:=⟨h2'.1,fun i hi=>(h2'.2 i hi).trans (h1'.2 i hi)⟩
theorem RowR.one {h:Heap} {id:Nat} {d:Array Bd} {o:Obj} (hr:hget h id=some o):RowR h id d (hset h id (rowB d)):=⟨hgs_eq hr,fun i hi=>hgs_ne (Ne.symm hi)⟩
theorem na (a b:Nat):((a:Nat):Int) + ((b:Nat):Int)=((a + b:Nat):Int):=rfl
theorem na1 (a:Nat):((a:Nat):Int) + 1=((a + 1:Nat):Int):=rfl
theorem nm2 (a:Nat):2 * ((a:Nat):Int)=((2 * a:Nat):Int):=rfl
theorem nle (a b:Nat):decide (((a:Nat):Int) ≤ ((b:Nat):Int))=decide (a ≤ b):=by simp
theorem nlt (a b:Nat):decide (((a:Nat):Int) < ((b:Nat):Int))=decide (a < b):=by simp
theorem NA:type_of% (And.intro na <| And.intro na1 <| And.intro nm2 <| And.intro nle <| nlt):=And.intro na <| And.intro na1 <| And.intro nm2 <| And.intro nle <| nlt
def RowN (id:Nat) (d:Array Bd) (h:Heap) (nx:Nat) (h':Heap) (nx':Nat):Prop:=hget h' id=some (rowB d)∧nx ≤ nx'∧∀ i,i < nx→i ≠ id→hget h' i=hget h i
theorem RowR.n {h h':Heap} {id nx nx':Nat} {d:Array Bd} (hr:RowR h id d h') (hn:nx ≤ nx'):RowN id d h nx h' nx':=⟨hr.1,hn,fun i _ hi=>hr.2 i hi⟩
theorem insInner_size {lt:Bd→Bd→Bool} {a:Nat}:∀ {j:Nat} {d:Array Bd},(Go.Sort.insInner lt a j d).size=d.size:=by
 intro j
 induction j with
 |zero=>intro d;rfl
 |succ j ih=>intro d;rw [Go.Sort.insInner];split<;>simp [ih,sz_swp]
section
variable {lt:Bd→Bd→Bool} {hi F root:Nat} {d:Array Bd}
theorem sd_end (h:hi ≤ 2 * root + 1):Go.Sort.siftDown lt hi F root d=d:=by rw [Go.Sort.siftDown,dif_pos h]
theorem sd_step (h:¬ hi ≤ 2 * root + 1) (c:Nat) (hc:c=if 2 * root + 1 + 1 < hi∧lt d[F + (2 * root + 1)]! d[F + (2 * root + 1) + 1]! = true then 2 * root + 1 + 1 else 2 * root + 1) :
  Go.Sort.siftDown lt hi F root d=if lt d[F + root]! d[F + c]! = true then Go.Sort.siftDown lt hi F c (Go.Sort.swp d (F + root) (F + c)) else d:=by
 rw [Go.Sort.siftDown,dif_neg (by omega)]
 by_cases h1:2 * root + 1 + 1 < hi∧lt d[F + (2 * root + 1)]! d[F + (2 * root + 1) + 1]! = true
 ·rw [if_pos h1] at hc
  subst hc
  rw [if_pos (by simp only [Bool.and_eq_true,decide_eq_true_eq];exact h1),show 2 * root + 2=2 * root + 1 + 1 from rfl,dif_pos h1.1]
  cases lt d[F + root]! d[F + (2 * root + 1 + 1)]! <;> rfl
 ·rw [if_neg h1] at hc
  subst hc
  rw [if_neg (by simp only [Bool.and_eq_true,decide_eq_true_eq];exact h1)]
  cases lt d[F + root]! d[F + (2 * root + 1)]! <;> rfl
theorem siftDown_size:∀ (k root:Nat) (d:Array Bd),hi - root ≤ k→(Go.Sort.siftDown lt hi F root d).size=d.size:=by
 intro k
 induction k with
 |zero=>intro root d hk;rw [sd_end (by omega)]
 |succ k ih =>
  intro root d hk
  by_cases hc:hi ≤ 2 * root + 1
  ·rw [sd_end hc]
  ·have key:∀ c,c=2 * root + 1 ∨ c=2 * root + 1 + 1→(if lt d[F + root]! d[F + c]! = true then Go.Sort.siftDown lt hi F c (Go.Sort.swp d (F + root) (F + c)) else d).size=d.size:=by
    intro c hc'
    split
    ·rw [ih _ _ (by omega),sz_swp]
    ·rfl
   rw [sd_step hc _ rfl]
   exact key _ (by split<;>simp)
end
theorem shr_ex {T:Tab} {f:Nat} {d:Fn} {args:List FV} {h:Heap} {nx:Nat} {P:FV × Heap × Nat→Prop} (ht:tget T f=some (.fn d)) (hm:d.mode=.shr) (hn:args.length=d.np)
  (hh:@Ok Out (runs T [.code d.body] (params 0 args) h nx) ⟨fun x=>@Ok FV (finV d.res x) ⟨fun v=>P (v,x.2.2.1,x.2.2.2)⟩⟩) (hlt:f < RB:=by decide):∃ r,lim T f args h nx=some r∧P r:=by
 rw [lim_shr ht hm hn hlt]
 obtain ⟨x,h1,v,h2,h3⟩:=hh
 exact ⟨(v,x.2.2.1,x.2.2.2),by rw [h1,B_some,h2,B_some],h3⟩
def CntR (h:Heap) (q:Nat) (h':Heap):Prop:=(∃ s:Int,hget h' q=some (.row 1 [.int .i64 s]))∧∀ i,i ≠ q→hget h' i=hget h i
theorem CntR.trans {h h1 h2:Heap} {q:Nat} (a:CntR h q h1) (b:CntR h1 q h2):CntR h q h2:=⟨b.1,fun i hi=>(b.2 i hi).trans (a.2 i hi)⟩
theorem scanUp_le {p:Bd→Bool} {d:Array Bd} {j i:Nat}:Go.Sort.scanUp p d j i ≤ i ∨ Go.Sort.scanUp p d j i ≤ j + 1:=by
 by_cases h:i ≤ j + 1
 ·exact .inr ((Go.Sort.scanUp_spec p d j _ i rfl).2.1 h)
 ·rw [Go.Sort.scanUp,if_neg (by simp;omega)];exact .inl (Nat.le_refl _)
theorem scanUp_p {p:Bd→Bool} {d:Array Bd} {i j:Nat} (h:i ≤ j) (hp:p d[i]! = true):Go.Sort.scanUp p d j i=Go.Sort.scanUp p d j (i + 1):=by
 rw [Go.Sort.scanUp,if_pos (by simp only [hp,Bool.and_true,decide_eq_true_eq];exact h)]
theorem scanUp_n {p:Bd→Bool} {d:Array Bd} {i j:Nat} (hp:p d[i]! = false):Go.Sort.scanUp p d j i=i:=by
 rw [Go.Sort.scanUp,if_neg (by simp [hp])]
theorem scanUp_o {p:Bd→Bool} {d:Array Bd} {i j:Nat} (h:¬ i ≤ j):Go.Sort.scanUp p d j i=i:=by
 rw [Go.Sort.scanUp,if_neg (by simp;omega)]
theorem scanDown_p {p:Bd→Bool} {d:Array Bd} {i j:Nat} (h:i ≤ j + 1) (hp:p d[j + 1]! = true):Go.Sort.scanDown p d i (j + 1)=Go.Sort.scanDown p d i j:=by
 rw [Go.Sort.scanDown,if_pos (by simp only [hp,Bool.and_true,decide_eq_true_eq];exact h)]
theorem scanDown_n {p:Bd→Bool} {d:Array Bd} {i j:Nat} (hp:p d[j]! = false):Go.Sort.scanDown p d i j=j:=by
 cases j with
 |zero=>rfl
 |succ j=>rw [Go.Sort.scanDown,if_neg (by simp [hp])]
theorem scanDown_o {p:Bd→Bool} {d:Array Bd} {i j:Nat} (h:¬ i ≤ j):Go.Sort.scanDown p d i j=j:=by
 cases j with
 |zero=>rfl
 |succ j=>rw [Go.Sort.scanDown,if_neg (by simp;omega)]
theorem RowN.trans {id:Nat} {d d':Array Bd} {h h1 h2:Heap} {nx nx1 nx2:Nat} (a:RowN id d h nx h1 nx1) (b:RowN id d' h1 nx1 h2 nx2):RowN id d' h nx h2 nx2 :=
 ⟨b.1,Nat.le_trans a.2.1 b.2.1,fun i hi hne=>(b.2.2 i (Nat.lt_of_lt_of_le hi a.2.1) hne).trans (a.2.2 i hi hne)⟩
theorem RowN.up {id:Nat} {d:Array Bd} {h h1:Heap} {nx nx0 nx1 nx2:Nat} (a:RowN id d h nx h1 nx1) (h0:nx0 ≤ nx) (h2:nx1 ≤ nx2):RowN id d h nx0 h1 nx2 :=
 ⟨a.1,by have:=a.2.1;omega,fun i hi hne=>a.2.2 i (by omega) hne⟩
theorem RowN.refl {id:Nat} {d:Array Bd} {h:Heap} {nx nx':Nat} (hr:hget h id=some (rowB d)) (hn:nx ≤ nx'):RowN id d h nx h nx':=⟨hr,hn,fun _ _ _=>rfl⟩
end Go.FI
namespace Go.FI
open Go.Sort (PermIn SortedIn Below SWO)
theorem cb_irr (a:List UInt8):Go.Lib.compareBytes a a=0:=by
 induction a with
 |nil=>rfl
 |cons x a ih=>simp [Go.Lib.compareBytes,UInt8.lt_irrefl,ih]
theorem cb_trans:∀ a b c:List UInt8,Go.Lib.compareBytes a b < 0→Go.Lib.compareBytes b c < 0→Go.Lib.compareBytes a c < 0:=by
 intro a
 induction a with
 |nil=>intro b c h1 h2;cases b<;>cases c<;>simp_all [Go.Lib.compareBytes]
 |cons x a ih =>
  intro b c h1 h2
  cases b with
  |nil=>simp [Go.Lib.compareBytes] at h1
  |cons y b =>
   cases c with
   |nil=>simp [Go.Lib.compareBytes] at h2
   |cons z c =>
    simp only [Go.Lib.compareBytes] at h1 h2 ⊢
    have t1:x < y→y < z→x < z:=UInt8.lt_trans
    have e1:¬ x < y→¬ y < x→x=y:=fun p q=>UInt8.le_antisymm (UInt8.not_lt.1 q) (UInt8.not_lt.1 p)
    have e2:¬ y < z→¬ z < y→y=z:=fun p q=>UInt8.le_antisymm (UInt8.not_lt.1 q) (UInt8.not_lt.1 p)
    by_cases c1:x < y
    ·by_cases c2:y < z
     ·simp [t1 c1 c2]
     ·by_cases c3:z < y
      ·simp [c2,c3] at h2
      ·have:=e2 c2 c3;subst this;simp [c1]
    ·by_cases c2:y < x
     ·simp [c1,c2] at h1
     ·have:=e1 c1 c2;subst this
      by_cases c3:x < z
      ·simp [c3]
      ·by_cases c4:z < x
       ·simp [c3,c4] at h2
       ·have:=e2 c3 c4;subst this
        simp only [c1,if_false,UInt8.lt_irrefl] at h1 h2 ⊢
        exact ih b c h1 h2
theorem cb_tri:∀ a b:List UInt8,Go.Lib.compareBytes a b < 0 ∨ Go.Lib.compareBytes b a < 0 ∨ a=b:=by
 intro a
 induction a with
 |nil=>intro b;cases b<;>simp [Go.Lib.compareBytes]
 |cons x a ih =>
  intro b
  cases b with
  |nil=>simp [Go.Lib.compareBytes]
  |cons y b =>
   simp only [Go.Lib.compareBytes]
   by_cases c1:x < y
   ·simp [c1]
   ·by_cases c2:y < x
    ·simp [c1,c2]
    ·have:=UInt8.le_antisymm (UInt8.not_lt.1 c2) (UInt8.not_lt.1 c1)
     subst this
     rcases ih b with h | h | h<;>simp [UInt8.lt_irrefl,h]
theorem swoB:SWO ltB where
 irrefl:=fun x=>by simp [ltB,cb_irr]
 trans:=fun x y z h1 h2=>by
  simp only [ltB,decide_eq_true_eq] at h1 h2 ⊢
  exact cb_trans _ _ _ h1 h2
 ntrans:=fun x y z h1 h2=>by
  simp only [ltB,decide_eq_false_iff_not] at h1 h2 ⊢
  intro h3
  rcases cb_tri x.1 y.1 with h | h | h
  ·exact h1 h
  ·exact h2 (cb_trans _ _ _ h h3)
  ·rw [h] at h3;exact h2 h3
theorem cb_lt:∀ a b:List UInt8,Go.Lib.compareBytes a b < 0 ↔ Op.bytesLess a b=true:=by
 intro a
 induction a with
 |nil=>intro b;cases b<;>simp [Go.Lib.compareBytes,Op.bytesLess]
 |cons x a ih =>
  intro b
  cases b with
  |nil=>simp [Go.Lib.compareBytes,Op.bytesLess]
  |cons y b =>
   simp only [Go.Lib.compareBytes,Op.bytesLess]
   by_cases h1:x < y
   ·simp [h1]
   ·by_cases h2:y < x
    ·simp [h1,h2]
     intro h;subst h;exact absurd h2 (UInt8.lt_irrefl _)
    ·have h3:y=x:=UInt8.le_antisymm (UInt8.not_lt.1 h1) (UInt8.not_lt.1 h2)
     subst h3
     simp [ih b]
theorem ltB_less {p q:Bd}:ltB p q=Op.bytesLess p.1 q.1:=by
 unfold ltB
 rw [Bool.eq_iff_iff,decide_eq_true_eq];exact cb_lt _ _
theorem less_irr (a:List UInt8):Op.bytesLess a a=false:=by
 cases h:Op.bytesLess a a with
 |false=>rfl
 |true=>have:=(cb_lt a a).2 h;rw [cb_irr] at this;omega
theorem less_trans {a b c:List UInt8} (h1:Op.bytesLess a b=true) (h2:Op.bytesLess b c=true):Op.bytesLess a c=true:=(cb_lt _ _).1 (cb_trans _ _ _ ((cb_lt _ _).2 h1) ((cb_lt _ _).2 h2))
theorem less_tri (a b:List UInt8):Op.bytesLess a b=true ∨ Op.bytesLess b a=true ∨ a=b:=by
 rcases cb_tri a b with h | h | h
 ·exact .inl ((cb_lt _ _).1 h)
 ·exact .inr (.inl ((cb_lt _ _).1 h))
 ·exact .inr (.inr h)
theorem less_asym {a b:List UInt8} (h:Op.bytesLess a b=true):Op.bytesLess b a=false:=by
 cases h2:Op.bytesLess b a with
 |false=>rfl
 |true=>have:=less_trans h h2;rw [less_irr] at this;cases this
def SL (l:Env0):Prop:=l.Pairwise fun p q=>Op.bytesLess p.1 q.1=true
theorem SL.nodup {l:Env0} (h:SL l):l.Nodup:=List.Pairwise.imp (fun {a b} hab e=>by subst e;rw [less_irr] at hab;cases hab) h
theorem SL.unique {l m:Env0} (h1:SL l) (h2:SL m) (h:∀ p,p ∈ l ↔ p ∈ m):l=m :=
 List.Perm.eq_of_pairwise (fun a b _ _ hab hba=>by rw [less_asym hab] at hba;cases hba) h1 h2 ((List.perm_ext_iff_of_nodup h1.nodup h2.nodup).2 h)
def ND (l:Env0):Prop:=l.Pairwise fun p q=>p.1 ≠ q.1
theorem lkE_none {s:List UInt8}:∀ {en:Env0},lkE en s=none→∀ p ∈ en,p.1 ≠ s:=by
 intro en
 induction en with
 |nil=>intro _ p hp;cases hp
 |cons q en ih =>
  obtain ⟨n,w⟩:=q
  intro h p hp
  simp only [lkE] at h
  split at h
  ·cases h
  ·rename_i hn
   rcases List.mem_cons.1 hp with rfl | hp
   ·exact fun e=>hn e.symm
   ·exact ih h p hp
theorem foldE_nd:∀ (xs:List Te) (en en':Env0),ND en→foldE varG en xs=.inl en'→ND en':=by
 intro xs
 induction xs with
 |nil=>intro en en' h e;simp only [foldE] at e;cases e;exact h
 |cons x xs ih =>
  intro en en' h e
  simp only [foldE] at e
  cases hg:varG en x with
  |inr u=>rw [hg] at e;cases e
  |inl en1 =>
   rw [hg] at e
   refine ih en1 en' ?_ e
   unfold varG at hg
   split at hg
   ·split at hg
    ·rename_i hl
     cases hg
     refine List.pairwise_append.2 ⟨h,List.pairwise_singleton _ _,fun a ha b hb=>?_⟩
     rw [List.mem_singleton] at hb;subst hb
     exact lkE_none hl a ha
    ·split at hg
     ·cases hg;exact h
     ·cases hg
   ·cases hg;exact h
theorem varsE_nd {t:Te} {en:Env0} (h:varsE t=.inl en):ND en:=foldE_nd _ _ _ List.Pairwise.nil h
theorem lkE_mem {s:List UInt8} {w:Int}:∀ {en:Env0},ND en→(lkE en s=some w ↔ (s,w) ∈ en):=by
 intro en
 induction en with
 |nil=>intro _;simp [lkE]
 |cons q en ih =>
  obtain ⟨n,v⟩:=q
  intro h
  have h1:=List.pairwise_cons.1 h
  simp only [lkE,List.mem_cons,Prod.mk.injEq]
  split
  ·rename_i e;subst e
   constructor
   ·intro e;cases e;exact .inl ⟨rfl,rfl⟩
   ·rintro (⟨_,rfl⟩ | hm)
    ·rfl
    ·exact (h1.1 _ hm rfl).elim
  ·rename_i e
   rw [ih h1.2]
   constructor
   ·exact .inr
   ·rintro (⟨e1,_⟩ | hm)
    ·exact absurd e1 e
    ·exact hm
theorem varsE_mem {t:Te} {en:Env0} (h:varsE t=.inl en) (p:List UInt8 × Int):p ∈ en ↔ p ∈ varList t:=by
 rw [← (varsE_in h).2 p.1 p.2,lkE_mem (varsE_nd h)]
theorem SL_sorted {n:Nat} {d d':Array Bd} (hn:d.size=n) (hn':d'.size=n) (hp:PermIn 0 n d d') (hs:SortedIn ltB 0 n d') (hd:ND d.toList):SL d'.toList∧∀ p,p ∈ d'.toList ↔ p ∈ d.toList:=by
 have hperm:d'.toList.Perm d.toList:=by
  have:=hp.2.2
  rw [← hn] at this
  have e1:d.extract 0 d.size=d:=by simp
  have e2:d'.extract 0 d.size=d':=by rw [hn,← hn'];simp
  rwa [e1,e2] at this
 have hnd:ND d'.toList:=List.Perm.pairwise hperm.symm hd (fun h=>Ne.symm h)
 refine ⟨List.pairwise_iff_getElem.2 fun i j hi hj hij=>?_,fun p=>hperm.mem_iff⟩
 have h1:=hs i j (Nat.zero_le _) hij (by rw [← hn'];simpa using hj)
 have h2:=List.pairwise_iff_getElem.1 hnd i j hi hj hij
 have ei:d'[i]! = d'.toList[i]:=by
  have:i < d'.size:=by simpa using hi
  simp [this]
 have ej:d'[j]! = d'.toList[j]:=by
  have:j < d'.size:=by simpa using hj
  simp [this]
 rw [ei,ej,ltB_less] at h1
 rcases less_tri d'.toList[i].1 d'.toList[j].1 with h | h | h
 ·exact h
 ·rw [h] at h1;cases h1
 ·exact absurd h h2
def posE (n:List UInt8):Env0→Nat
 |[]=>0
 |q::r=>if Op.bytesLess q.1 n=true then posE n r + 1 else 0
theorem posE_le (n:List UInt8):∀ l:Env0,posE n l ≤ l.length:=by
 intro l
 induction l with
 |nil=>exact Nat.le_refl _
 |cons q l ih=>simp only [posE];split<;>simp only [List.length_cons]<;>omega
def stepE (l:Env0) (p:List UInt8 × Int):Env0 :=
 if posE p.1 l=l.length ∨ (l.getD (posE p.1 l) ([],0)).1 ≠ p.1 then l.take (posE p.1 l) ++ [p] ++ l.drop (posE p.1 l) else l
theorem stepE_cons (q p : List UInt8 × Int) (l : Env0) : stepE (q :: l) p = if Op.bytesLess q.1 p.1 = true then q :: stepE l p else if q.1 = p.1 then q :: l else p :: q :: l := by
  unfold stepE
  by_cases h : Op.bytesLess q.1 p.1 = true
  · simp only [posE, if_pos h, List.length_cons, List.take_succ_cons, List.drop_succ_cons, Nat.add_right_cancel_iff, List.getD_cons_succ]
    split <;> simp
  · simp only [posE, if_neg h, List.length_cons, List.take_zero, List.drop_zero, List.getD_cons_zero]
    by_cases e : q.1 = p.1
    · rw [if_neg (by rintro (h | h); · omega
                     · exact h e), if_pos e]
    · rw [if_pos (.inr e), if_neg e]; rfl
theorem stepE_mem {p:List UInt8 × Int}:∀ {l:Env0},SL l→(∀ w,(p.1,w) ∈ l→w=p.2)→∀ q,q ∈ stepE l p ↔ q ∈ l ∨ q=p:=by
 intro l
 induction l with
 |nil=>intro _ _ q;simp [stepE,posE]
 |cons r l ih =>
  intro h hc q
  have h1:=List.pairwise_cons.1 h
  rw [stepE_cons]
  split
  ·rw [List.mem_cons,ih h1.2 (fun w hw=>hc w (List.mem_cons_of_mem _ hw)),List.mem_cons,or_assoc]
  ·split
   ·rename_i e
    have:r=p:=by
     obtain ⟨a,b⟩:=r
     have:=hc b (by rw [← e];simp)
     obtain ⟨c,d⟩:=p
     simp only at e this;rw [e,this]
    constructor
    ·exact .inl
    ·rintro (hq | rfl)
     ·exact hq
     ·rw [← this];simp
   ·simp only [List.mem_cons]
    constructor
    ·rintro (h | h | h)
     ·exact .inr h
     ·exact .inl (.inl h)
     ·exact .inl (.inr h)
    ·rintro ((h | h) | h)
     ·exact .inr (.inl h)
     ·exact .inr (.inr h)
     ·exact .inl h
theorem stepE_sub {p:List UInt8 × Int}:∀ {l:Env0},∀ q,q ∈ stepE l p→q ∈ l ∨ q=p:=by
 intro l
 induction l with
 |nil=>intro q;simp [stepE,posE]
 |cons r l ih =>
  intro q
  rw [stepE_cons]
  split
  ·simp only [List.mem_cons]
   rintro (h | h)
   ·exact .inl (.inl h)
   ·rcases ih q h with h | h
    ·exact .inl (.inr h)
    ·exact .inr h
  ·split
   ·exact .inl
   ·simp only [List.mem_cons]
    rintro (h | h | h)
    ·exact .inr h
    ·exact .inl (.inl h)
    ·exact .inl (.inr h)
theorem stepE_SL {p:List UInt8 × Int}:∀ {l:Env0},SL l→SL (stepE l p):=by
 intro l
 induction l with
 |nil=>intro _;simp [stepE,posE,SL]
 |cons r l ih =>
  intro h
  have h1:=List.pairwise_cons.1 h
  rw [stepE_cons]
  split
  ·rename_i hl
   refine List.pairwise_cons.2 ⟨fun q hq=>?_,ih h1.2⟩
   rcases stepE_sub q hq with hq | rfl
   ·exact h1.1 q hq
   ·exact hl
  ·rename_i hl
   split
   ·exact h
   ·rename_i e
    have hpr:Op.bytesLess p.1 r.1=true:=by
     rcases less_tri r.1 p.1 with h | h | h
     ·exact absurd h hl
     ·exact h
     ·exact absurd h e
    refine List.pairwise_cons.2 ⟨fun q hq=>?_,h⟩
    rcases List.mem_cons.1 hq with rfl | hq
    ·exact hpr
    ·exact less_trans hpr (h1.1 q hq)
theorem stepE_len (l:Env0) (p:List UInt8 × Int):(stepE l p).length ≤ l.length + 1:=by
 unfold stepE
 have:=posE_le p.1 l
 split
 ·simp only [List.length_append,List.length_take,List.length_drop,List.length_cons,List.length_nil];omega
 ·omega
def insE:Env0→Env0→Env0
 |out,[]=>out
 |out,p::r=>insE (stepE out p) r
theorem insE_spec:∀ (L out M:Env0),SL out→(∀ p,p ∈ out ↔ p ∈ M)→Cons (M ++ L)→SL (insE out L)∧∀ p,p ∈ insE out L ↔ p ∈ M ++ L:=by
 intro L
 induction L with
 |nil=>intro out M h1 h2 _;simp only [insE,List.append_nil];exact ⟨h1,h2⟩
 |cons p L ih =>
  intro out M h1 h2 hc
  have hcp:∀ w,(p.1,w) ∈ out→w=p.2:=fun w hw=>hc p.1 w p.2 (by simp [(h2 _).1 hw]) (by simp)
  have:=ih (stepE out p) (M ++ [p]) (stepE_SL h1) (fun q=>by rw [stepE_mem h1 hcp,h2,List.mem_append,List.mem_singleton]) (by simpa using hc)
  simp only [insE]
  simpa using this
theorem vars_one {t:Te} {en L:Env0} (h:varsE t=.inl en) (h1:SL L) (h2:∀ p,p ∈ L ↔ p ∈ en):L=insE [] (varList t):=by
 obtain ⟨q1,q2⟩:=insE_spec (varList t) [] [] List.Pairwise.nil (fun _=>Iff.rfl) (by simpa using (varsE_in h).1)
 exact SL.unique h1 q1 fun p=>by rw [h2,varsE_mem h,q2];simp
def bd0 (p:List UInt8 × Int):FV:=.agg [.str p.1,.int .i64 p.2,.int .u64 0]
theorem pu_b0 (l:Env0):pures (l.map bd0)=true:=pures_map (fun _=>rfl) _
theorem lo_b0 (b:Nat) (l:Env0):lows b (l.map bd0)=true:=lows_map (fun _=>rfl) _
theorem al_b0 (l:Env0):(l.map bd0).all FV.ok=true:=all_map (fun _=>rfl) _
theorem cl_b0 (l:Env0):((l.map bd0).all fun v=>v.cells.length == 3)=true:=all_map (fun _=>rfl) _
theorem gd_b0 {l:Env0} {i:Nat} {d:FV} (h:i < l.length):(l.map bd0).getD i d=.agg [.str (l.getD i ([],0)).1,.int .i64 (l.getD i ([],0)).2,.int .u64 0]:=getD_map _ h
theorem LAWSb:type_of% (And.intro pu_Ts <| And.intro lo_Ts <| And.intro al_Ts <| And.intro cl_Ts <| And.intro @gd_T <| And.intro @ge_T <| And.intro pu_b0 <| And.intro lo_b0 <| And.intro al_b0 <| And.intro cl_b0 @gd_b0):=And.intro pu_Ts <| And.intro lo_Ts <| And.intro al_Ts <| And.intro cl_Ts <| And.intro @gd_T <| And.intro @ge_T <| And.intro pu_b0 <| And.intro lo_b0 <| And.intro al_b0 <| And.intro cl_b0 @gd_b0
end Go.FI
namespace Go.FI
def toI (n a:Nat):Int:=if a < 2 ^ (n - 1) then a else (a:Int) - 2 ^ n
def opN (k:Int) (n a b:Nat):Nat :=
 if k=5 then (a + b) % 2 ^ n else if k=6 then (a + (2 ^ n - b)) % 2 ^ n else if k=7 then a * b % 2 ^ n
 else if k=8 then a &&& b else if k=9 then a ||| b else if k=10 then a ^^^ b
 else if k=11 then a * 2 ^ b % 2 ^ n else if k=12 then a / 2 ^ b else if k=13 then (toI n a / 2 ^ (min b 64) % 2 ^ n).toNat
 else if k=14 then (if b=0 then 2 ^ n - 1 else a / b) else if k=15 then (if b=0 then a else a % b)
 else if k=16 then (if a=b then 1 else 0) else if k=17 then (if a < b then 1 else 0)
 else if k=18 then (if toI n a < toI n b then 1 else 0) else 0
def unN (k:Int) (n a:Nat):Nat:=if k=3 then 2 ^ n - 1 - a else (2 ^ n - a) % 2 ^ n
section
variable {n a b:Nat}
theorem two_dvd {m n:Nat} (h:n ≤ m):((2:Int) ^ n) ∣ 2 ^ m:=by
 rw [← pow_nat,← pow_nat];exact Int.natCast_dvd_natCast.2 (Nat.pow_dvd_pow 2 h)
theorem w64 (x:Int):IntKind.u64.wrap x=x % 18446744073709551616:=by
 simp [IntKind.wrap,IntKind.bits,IntKind.signed]
theorem fin_mod (hn:n ≤ 64) (X:Int):band .u64 (IntKind.u64.wrap X) (2 ^ n - 1)=X % 2 ^ n:=by
 rw [w64,band_mask (Int.emod_nonneg _ (by decide)) (Int.emod_lt_of_pos _ (by decide)) hn]
 exact Int.emod_emod_of_dvd X (two_dvd (m:=64) hn)
theorem fin_in (hn:n ≤ 64) {X:Int} (h0:0 ≤ X) (h1:X < 18446744073709551616):band .u64 X (2 ^ n - 1)=X % 2 ^ n:=band_mask h0 h1 hn
theorem fin_lt (hn:n ≤ 64) {X:Nat} (h1:X < 2 ^ n):band .u64 X (2 ^ n - 1)=(X:Int):=by
 have:=pow64 hn
 have h2:((X:Nat):Int) < 2 ^ n:=by rw [← pow_nat];exact Int.ofNat_lt.2 h1
 rw [fin_in hn (by omega) (by omega),Int.emod_eq_of_lt (by omega) h2]
theorem nat_mod (x:Nat):((x % 2 ^ n:Nat):Int)=(x:Int) % 2 ^ n:=by rw [Int.natCast_emod,pow_nat]
theorem lt64 (hn:n ≤ 64) (h:a < 2 ^ n):a < 18446744073709551616:=Nat.lt_of_lt_of_le h (Nat.pow_le_pow_right (by decide) hn:2 ^ n ≤ 2 ^ 64)
theorem X_add (hn:n ≤ 64):band .u64 (IntKind.u64.wrap ((a:Int) + b)) (2 ^ n - 1)=(opN 5 n a b:Nat):=by
 rw [fin_mod hn];simp only [opN,if_true];rw [nat_mod];congr 1
theorem X_sub (hn:n ≤ 64) (hb:b < 2 ^ n):band .u64 (IntKind.u64.wrap ((a:Int) - b)) (2 ^ n - 1)=(opN 6 n a b:Nat):=by
 rw [fin_mod hn]
 have e:opN 6 n a b=(a + (2 ^ n - b)) % 2 ^ n:=rfl
 rw [e,nat_mod,Int.natCast_add,Int.ofNat_sub (Nat.le_of_lt hb),pow_nat]
 rw [show (a:Int) + (2 ^ n - b)=(a - b) + 2 ^ n by omega,Int.add_emod_right]
theorem X_mul (hn:n ≤ 64):band .u64 (IntKind.u64.wrap ((a:Int) * b)) (2 ^ n - 1)=(opN 7 n a b:Nat):=by
 rw [fin_mod hn]
 have e:opN 7 n a b=a * b % 2 ^ n:=rfl
 rw [e,nat_mod,Int.natCast_mul]
theorem X_and (hn:n ≤ 64) (ha:a < 2 ^ n) (hb:b < 2 ^ n):band .u64 (band .u64 a b) (2 ^ n - 1)=(opN 8 n a b:Nat):=by
 have h1:=lt64 hn ha
 have h2:=lt64 hn hb
 have e:=band_nat (a:=(a:Int)) (b:=(b:Int)) (by omega) (by omega) (by omega) (by omega)
 rw [e,Int.toNat_natCast,Int.toNat_natCast]
 exact fin_lt hn (Nat.lt_of_le_of_lt Nat.and_le_left ha)
theorem X_or (hn:n ≤ 64) (ha:a < 2 ^ n) (hb:b < 2 ^ n):band .u64 (bor .u64 a b) (2 ^ n - 1)=(opN 9 n a b:Nat):=by
 have h1:=lt64 hn ha
 have h2:=lt64 hn hb
 have e:=bor_nat (a:=(a:Int)) (b:=(b:Int)) (by omega) (by omega) (by omega) (by omega)
 rw [e,Int.toNat_natCast,Int.toNat_natCast]
 exact fin_lt hn (Nat.or_lt_two_pow ha hb)
theorem bxor_nat {a b:Int} (ha:0 ≤ a) (ha':a < 18446744073709551616) (hb:0 ≤ b) (hb':b < 18446744073709551616):bxor .u64 a b=((a.toNat ^^^ b.toNat:Nat):Int):=by
 have e:(BitVec.ofInt IntKind.u64.bits a ^^^ BitVec.ofInt IntKind.u64.bits b).toNat=a.toNat ^^^ b.toNat:=by
  rw [BitVec.toNat_xor];rw [show IntKind.u64.bits=64 from rfl,toNat_ofInt ha ha',toNat_ofInt hb hb']
 unfold bxor
 rw [e]
 have:=Nat.xor_lt_two_pow (n:=64) (x:=a.toNat) (y:=b.toNat) (by omega) (by omega)
 rw [wrapu (by omega)];omega
theorem X_xor (hn:n ≤ 64) (ha:a < 2 ^ n) (hb:b < 2 ^ n):band .u64 (bxor .u64 a b) (2 ^ n - 1)=(opN 10 n a b:Nat):=by
 have h1:=lt64 hn ha
 have h2:=lt64 hn hb
 have e:=bxor_nat (a:=(a:Int)) (b:=(b:Int)) (by omega) (by omega) (by omega) (by omega)
 rw [e,Int.toNat_natCast,Int.toNat_natCast]
 exact fin_lt hn (Nat.xor_lt_two_pow ha hb)
theorem min_few (b:Nat):(min (b:Int) 64).toNat=min b 64:=by omega
theorem X_shl (hn:n ≤ 64):band .u64 (shl .u64 a (min (b:Int) 64)) (2 ^ n - 1)=(opN 11 n a b:Nat):=by
 unfold shl
 rw [fin_mod hn,min_few]
 have e:opN 11 n a b=a * 2 ^ b % 2 ^ n:=rfl
 rw [e,nat_mod,Int.natCast_mul,pow_nat]
 show (a:Int) * 2 ^ (min (min b 64) 64) % 2 ^ n=_
 by_cases h:b ≤ 64
 ·rw [show min (min b 64) 64=b by omega]
 ·rw [show min (min b 64) 64=64 by omega]
  have h1:(a:Int) * 2 ^ 64 % 2 ^ n=0:=Int.emod_eq_zero_of_dvd (Int.dvd_mul_of_dvd_right (two_dvd hn))
  have h2:(a:Int) * 2 ^ b % 2 ^ n=0:=Int.emod_eq_zero_of_dvd (Int.dvd_mul_of_dvd_right (two_dvd (by omega)))
  rw [h1,h2]
theorem X_shr (hn:n ≤ 64) (ha:a < 2 ^ n):band .u64 (shr .u64 a (min (b:Int) 64)) (2 ^ n - 1)=(opN 12 n a b:Nat):=by
 have h1:=lt64 hn ha
 have e:opN 12 n a b=a / 2 ^ b:=rfl
 have hs:shr .u64 a (min (b:Int) 64)=((a / 2 ^ b:Nat):Int):=by
  unfold shr
  rw [min_few]
  show (a:Int).fdiv (2 ^ (min (min b 64) 64))=_
  rw [Int.fdiv_eq_ediv_of_nonneg _ (Int.le_of_lt (pow_pos' _)),Int.natCast_ediv,pow_nat]
  by_cases h:b ≤ 64
  ·rw [show min (min b 64) 64=b by omega]
  ·rw [show min (min b 64) 64=64 by omega,Int.ediv_eq_zero_of_lt (by omega) (by show (a:Int) < 18446744073709551616;omega),Int.ediv_eq_zero_of_lt (by omega) (Int.lt_of_lt_of_le (by show (a:Int) < 18446744073709551616;omega) (show (18446744073709551616:Int) ≤ 2 ^ b from pow_le (m:=64) (by omega)))]
 rw [hs,e]
 exact fin_lt hn (Nat.lt_of_le_of_lt (Nat.div_le_self _ _) ha)
theorem toI_lo (hn0:1 ≤ n) (ha:a < 2 ^ n):-(2 ^ (n - 1):Int) ≤ toI n a∧toI n a < 2 ^ (n - 1):=by
 have e:(2:Int) ^ n=2 ^ (n - 1) + 2 ^ (n - 1):=by
  obtain ⟨m,rfl⟩:∃ m,n=m + 1:=⟨n - 1,by omega⟩
  rw [Nat.add_sub_cancel,Int.pow_succ];omega
 have e2:=pow_nat (n - 1)
 have e3:=pow_nat n
 unfold toI
 split<;>omega
theorem X_sgn (hn0:1 ≤ n) (hn:n ≤ 64) (ha:a < 2 ^ n):shr .i64 (IntKind.i64.wrap (shl .u64 a (64 - (n:Int)))) (64 - (n:Int))=toI n a:=by
 obtain ⟨u,hu⟩:∃ u:Nat,n + u=64:=⟨64 - n,by omega⟩
 have hu':(64 - (n:Int))=(u:Int):=by omega
 rw [hu']
 have hp:(2:Int) ^ n * 2 ^ u=18446744073709551616:=by rw [← Int.pow_add,hu];rfl
 have hpu:=pow_pos' u
 have hh:(2:Int) ^ (n - 1) * 2 ^ u=9223372036854775808:=by rw [← Int.pow_add,show n - 1 + u=63 by omega];rfl
 have han:(a:Int) < 2 ^ n:=by rw [← pow_nat];exact Int.ofNat_lt.2 ha
 have hs:shl .u64 a u=(a:Int) * 2 ^ u:=by
  unfold shl
  rw [show min ((u:Int).toNat) IntKind.u64.bits=u by show min ((u:Int).toNat) 64=u;omega,w64]
  exact Int.emod_eq_of_lt (Int.mul_nonneg (by omega) (by omega)) (by rw [← hp];exact Int.mul_lt_mul_of_pos_right han hpu)
 rw [hs]
 unfold shr
 rw [show min ((u:Int).toNat) IntKind.i64.bits=u by show min ((u:Int).toNat) 64=u;omega,Int.fdiv_eq_ediv_of_nonneg _ (by omega)]
 have hwr:∀ x:Int,0 ≤ x→x < 18446744073709551616→IntKind.i64.wrap x=if x < 9223372036854775808 then x else x - 18446744073709551616:=by
  intro x h0 h1
  show (if (true && decide (x % 18446744073709551616 ≥ 9223372036854775808))=true then x % 18446744073709551616 - 18446744073709551616 else x % 18446744073709551616)=_
  rw [Int.emod_eq_of_lt h0 h1]
  simp only [Bool.true_and,decide_eq_true_eq]
  split<;>split<;>omega
 rw [hwr _ (Int.mul_nonneg (by omega) (by omega)) (by rw [← hp];exact Int.mul_lt_mul_of_pos_right han hpu)]
 unfold toI
 have e2:=pow_nat (n - 1)
 by_cases hc:a < 2 ^ (n - 1)
 ·have hc':(a:Int) < 2 ^ (n - 1):=by rw [← e2];exact Int.ofNat_lt.2 hc
  rw [if_pos (by rw [← hh];exact Int.mul_lt_mul_of_pos_right hc' hpu),if_pos hc]
  exact Int.mul_ediv_cancel _ (by omega)
 ·have hc':(2:Int) ^ (n - 1) ≤ a:=by rw [← e2];exact Int.ofNat_le.2 (by omega)
  have:¬ (a:Int) * 2 ^ u < 9223372036854775808:=by
   rw [← hh];exact Int.not_lt.2 (Int.mul_le_mul_of_nonneg_right hc' (by omega))
  rw [if_neg this,if_neg hc,← hp,← Int.sub_mul]
  exact Int.mul_ediv_cancel _ (by omega)
theorem X_sar (hn:n ≤ 64):band .u64 (IntKind.u64.wrap (shr .i64 (toI n a) (min (b:Int) 64))) (2 ^ n - 1)=(opN 13 n a b:Nat):=by
 rw [fin_mod hn]
 have e:opN 13 n a b=(toI n a / 2 ^ (min b 64) % 2 ^ n).toNat:=rfl
 have hp:=pow_pos' n
 rw [e,Int.toNat_of_nonneg (Int.emod_nonneg _ (by omega))]
 unfold shr
 rw [min_few]
 show ((toI n a).fdiv (2 ^ (min (min b 64) 64))) % 2 ^ n=_
 rw [Int.fdiv_eq_ediv_of_nonneg _ (Int.le_of_lt (pow_pos' _)),show min (min b 64) 64=min b 64 by omega]
theorem X_div0 (hn:n ≤ 64):band .u64 18446744073709551615 (2 ^ n - 1)=(opN 14 n a 0:Nat):=by
 rw [fin_in hn (by decide) (by decide)]
 have e:opN 14 n a 0=2 ^ n - 1:=rfl
 have h1:=pow64 hn
 have h2:=pow_pos' n
 have h3:=pow_nat n
 rw [e]
 have:(18446744073709551615:Int) % 2 ^ n=2 ^ n - 1:=by
  obtain ⟨c,hc⟩:=two_dvd (m:=64) hn
  have hc:(18446744073709551616:Int)=2 ^ n * c:=hc
  have:(18446744073709551615:Int)=(2 ^ n - 1) + 2 ^ n * (c - 1):=by rw [Int.mul_sub,← hc];omega
  rw [this,Int.add_mul_emod_self_left,Int.emod_eq_of_lt (by omega) (by omega)]
 rw [this]
 have h4:1 ≤ 2 ^ n:=Nat.one_le_two_pow
 omega
theorem X_div (hn:n ≤ 64) (ha:a < 2 ^ n) (hb:b ≠ 0):band .u64 ((a / b:Nat):Int) (2 ^ n - 1)=(opN 14 n a b:Nat):=by
 have e:opN 14 n a b=a / b:=by simp [opN,hb]
 rw [e];exact fin_lt hn (Nat.lt_of_le_of_lt (Nat.div_le_self _ _) ha)
theorem X_rem0 (hn:n ≤ 64) (ha:a < 2 ^ n):band .u64 (a:Int) (2 ^ n - 1)=(opN 15 n a 0:Nat):=fin_lt hn ha
theorem X_rem (hn:n ≤ 64) (ha:a < 2 ^ n) (hb:b ≠ 0):band .u64 ((a % b:Nat):Int) (2 ^ n - 1)=(opN 15 n a b:Nat):=by
 have e:opN 15 n a b=a % b:=by simp [opN,hb]
 rw [e];exact fin_lt hn (Nat.lt_of_le_of_lt (Nat.mod_le _ _) ha)
theorem X_one (hn0:1 ≤ n) (hn:n ≤ 64) (c:Bool):band .u64 (if c=true then 1 else 0) (2 ^ n - 1)=(if c=true then 1 else 0):=by
 have h2:1 < 2 ^ n:=Nat.lt_of_lt_of_le (by decide:1 < 2 ^ 1) (Nat.pow_le_pow_right (by decide) hn0)
 cases c
 ·exact fin_lt (X:=0) hn (by omega)
 ·exact fin_lt (X:=1) hn h2
theorem opN_lt (hn0:1 ≤ n) (ha:a < 2 ^ n) (hb:b < 2 ^ n) (k:Int):opN k n a b < 2 ^ n:=by
 have h2:1 < 2 ^ n:=Nat.lt_of_lt_of_le (by decide:1 < 2 ^ 1) (Nat.pow_le_pow_right (by decide) hn0)
 have h0:0 < 2 ^ n:=by omega
 unfold opN
 by_cases k5:k=5
 ·rw [if_pos k5];exact Nat.mod_lt _ h0
 rw [if_neg k5]
 by_cases k6:k=6
 ·rw [if_pos k6];exact Nat.mod_lt _ h0
 rw [if_neg k6]
 by_cases k7:k=7
 ·rw [if_pos k7];exact Nat.mod_lt _ h0
 rw [if_neg k7]
 by_cases k8:k=8
 ·rw [if_pos k8];exact Nat.lt_of_le_of_lt Nat.and_le_left ha
 rw [if_neg k8]
 by_cases k9:k=9
 ·rw [if_pos k9];exact Nat.or_lt_two_pow ha hb
 rw [if_neg k9]
 by_cases k10:k=10
 ·rw [if_pos k10];exact Nat.xor_lt_two_pow ha hb
 rw [if_neg k10]
 by_cases k11:k=11
 ·rw [if_pos k11];exact Nat.mod_lt _ h0
 rw [if_neg k11]
 by_cases k12:k=12
 ·rw [if_pos k12];exact Nat.lt_of_le_of_lt (Nat.div_le_self _ _) ha
 rw [if_neg k12]
 by_cases k13:k=13
 ·rw [if_pos k13]
  have hp:=pow_pos' n
  have h1:=Int.emod_lt_of_pos (toI n a / 2 ^ (min b 64)) hp
  have h3:=Int.emod_nonneg (toI n a / 2 ^ (min b 64)) (b:=2 ^ n) (by omega)
  have h4:=pow_nat n
  omega
 rw [if_neg k13]
 by_cases k14:k=14
 ·rw [if_pos k14]
  by_cases hb0:b=0
  ·rw [if_pos hb0];omega
  ·rw [if_neg hb0];exact Nat.lt_of_le_of_lt (Nat.div_le_self _ _) ha
 rw [if_neg k14]
 by_cases k15:k=15
 ·rw [if_pos k15]
  by_cases hb0:b=0
  ·rw [if_pos hb0];exact ha
  ·rw [if_neg hb0];exact Nat.lt_of_le_of_lt (Nat.mod_le _ _) ha
 rw [if_neg k15]
 have key:∀ c:Prop,[Decidable c]→(if c then 1 else 0) < 2 ^ n:=fun c _=>by
  by_cases hc:c
  ·rw [if_pos hc];exact h2
  ·rw [if_neg hc];exact h0
 by_cases k16:k=16
 ·rw [if_pos k16];exact key _
 rw [if_neg k16]
 by_cases k17:k=17
 ·rw [if_pos k17];exact key _
 rw [if_neg k17]
 by_cases k18:k=18
 ·rw [if_pos k18];exact key _
 rw [if_neg k18];exact h0
theorem unN_lt (ha:a < 2 ^ n) (k:Int):unN k n a < 2 ^ n:=by
 have h0:0 < 2 ^ n:=Nat.pow_pos (by decide)
 unfold unN
 split
 ·omega
 ·exact Nat.mod_lt _ h0
theorem X_not (hn:n ≤ 64) (ha:a < 2 ^ n):band .u64 (bxor .u64 18446744073709551615 a) (2 ^ n - 1)=(unN 3 n a:Nat):=by
 have h1:=lt64 hn ha
 rw [bxor_nat (by decide) (by decide) (by omega) (by omega)]
 have e:unN 3 n a=2 ^ n - 1 - a:=rfl
 have hx:((18446744073709551615:Int).toNat ^^^ (a:Int).toNat)=18446744073709551615 - a:=by
  rw [Int.toNat_natCast]
  have:(18446744073709551615:Int).toNat=2 ^ 64 - 1:=rfl
  rw [this]
  have h:a < 2 ^ 64:=h1
  apply Nat.eq_of_testBit_eq
  intro i
  have e:18446744073709551615 - a=2 ^ 64 - (a + 1):=by omega
  rw [e,Nat.testBit_two_pow_sub_succ h,Nat.testBit_xor,Nat.testBit_two_pow_sub_one]
  by_cases hi:i < 64
  ·simp [hi]
  ·have hb:=Nat.testBit_lt_two_pow (x:=a) (i:=i) (Nat.lt_of_lt_of_le h (Nat.pow_le_pow_right (by decide) (by omega:64 ≤ i)))
   simp [hi,hb]
 have h2:=pow64 hn
 have h3:=pow_nat n
 rw [hx,fin_in hn (by omega) (by omega),e]
 obtain ⟨c,hc⟩:=two_dvd (m:=64) hn
 have hc:(18446744073709551616:Int)=2 ^ n * c:=hc
 have h4:((18446744073709551615 - a:Nat):Int)=((2 ^ n - 1 - a:Nat):Int) + 2 ^ n * (c - 1):=by
  rw [Int.mul_sub,← hc];omega
 rw [h4,Int.add_mul_emod_self_left,Int.emod_eq_of_lt (by omega) (by omega)]
theorem X_neg (hn:n ≤ 64) (ha:a < 2 ^ n):band .u64 (IntKind.u64.wrap (0 - (a:Int))) (2 ^ n - 1)=(unN 4 n a:Nat):=by
 rw [fin_mod hn]
 have e:unN 4 n a=(2 ^ n - a) % 2 ^ n:=rfl
 rw [e,nat_mod,Int.ofNat_sub (Nat.le_of_lt ha),pow_nat,show (2:Int) ^ n - a=(0 - a) + 2 ^ n by omega,Int.add_emod_right]
end
def exN (s:Bool) (n m a:Nat):Nat:=if s=true then (toI n a % 2 ^ m).toNat else a
theorem exN_lt {s:Bool} {n m a:Nat} (hnm:n ≤ m) (ha:a < 2 ^ n):exN s n m a < 2 ^ m:=by
 unfold exN
 split
 ·have hp:=pow_pos' m
  have h1:=Int.emod_lt_of_pos (toI n a) hp
  have h3:=Int.emod_nonneg (toI n a) (b:=2 ^ m) (by omega)
  have h4:=pow_nat m
  omega
 ·exact Nat.lt_of_lt_of_le ha (Nat.pow_le_pow_right (by decide) hnm)
end Go.FI
namespace Go.FI
def vop (ld:Nat→Nat→Nat→Nat) (k w b lo:Int) (r:Nat) (ws:List Int) (vs:List Nat):Nat :=
 if k=1 then b.toNat else if k=2 then r
 else if k=3 ∨ k=4 then unN k (ws.getD 0 0).toNat (vs.getD 0 0)
 else if k=19 then (if vs.getD 0 0=1 then vs.getD 1 0 else vs.getD 2 0)
 else if k=20 then vs.getD 0 0 * 2 ^ (ws.getD 1 0).toNat + vs.getD 1 0
 else if k=21 then vs.getD 0 0 / 2 ^ lo.toNat % 2 ^ w.toNat
 else if k=22 ∨ k=23 then exN (decide (k=23)) (ws.getD 0 0).toNat w.toNat (vs.getD 0 0)
 else if k=24 then ld (ws.getD 0 0).toNat (vs.getD 0 0) w.toNat
 else opN k (ws.getD 0 0).toNat (vs.getD 0 0) (vs.getD 1 0)
section
variable (ρ:List UInt8→Nat) (ld:Nat→Nat→Nat→Nat)
mutual
def valT:Te→Nat
 |.mk k w b s lo _ l=>vop ld k w b lo (ρ s) (l.map Tm'.w) (valL l)
def valL:List Te→List Nat
 |[]=>[]
 |x::r=>valT x::valL r
end
theorem valL_map (l:List Te):valL ρ ld l=l.map (valT ρ ld):=by
 induction l with
 |nil=>simp [valL]
 |cons x l ih=>simp only [valL,ih,List.map_cons]
theorem valT_eq (t:Te):valT ρ ld t=vop ld t.k t.w t.b t.lo (ρ t.s) (t.l.map Tm'.w) (t.l.map (valT ρ ld)):=by
 cases t;simp only [valT,valL_map,Tm'.k,Tm'.w,Tm'.b,Tm'.s,Tm'.lo,Tm'.l]
variable {ρ ld}
theorem vop_r {k w b lo:Int} {r r':Nat} {ws:List Int} {vs:List Nat} (h:k=2→r=r'):vop ld k w b lo r ws vs=vop ld k w b lo r' ws vs:=by
 unfold vop
 by_cases h1:k=1
 ·rw [if_pos h1,if_pos h1]
 ·rw [if_neg h1,if_neg h1]
  by_cases h2:k=2
  ·rw [if_pos h2,if_pos h2];exact h h2
  ·rw [if_neg h2,if_neg h2]
theorem valT_congr {ρ':List UInt8→Nat} (t:Te) (h:∀ x ∈ nodesT t,x.k=2→ρ x.s=ρ' x.s):valT ρ ld t=valT ρ' ld t:=by
 induction t using Tm'.ind with
 |h t ih =>
 have hl:t.l.map (valT ρ ld)=t.l.map (valT ρ' ld):=List.map_congr_left fun x hx=>ih x hx fun y hy=>h y (nodes_sub hx hy)
 rw [valT_eq,valT_eq,hl]
 exact vop_r (h t (mem_nodes t))
theorem valT_er (t:Te):valT ρ ld (er t)=valT ρ ld t:=by
 induction t using Tm'.ind with
 |h t ih =>
 rw [valT_eq,valT_eq,er_k,er_w,er_b,er_s,er_lo,er_l,List.map_map,List.map_map]
 congr 1
 ·exact List.map_congr_left fun x _=>er_w x
 ·exact List.map_congr_left fun x hx=>ih x hx
end
abbrev EnvU:=List (List UInt8 × Nat)
def kvU (p:List UInt8 × Nat):FV × FV:=(.str p.1,.int .u64 p.2)
def lkU:EnvU→List UInt8→Option Nat
 |[],_=>none
 |(n,w)::r,s=>if s=n then some w else lkU r s
theorem find_U (s:List UInt8):∀ en:EnvU,FI.find 1 (.str s) (en.map kvU)=some ((lkU en s).map fun x:Nat=>.int .u64 x):=by
 intro en
 induction en with
 |nil=>rfl
 |cons p en ih =>
  obtain ⟨n,w⟩:=p
  simp only [List.map_cons,kvU,FI.find,keyEq,bnd,lkU]
  by_cases e:s=n
  ·simp [e]
  ·rw [if_neg (by simpa using e),if_neg e]
   exact ih
theorem upd_U (s:List UInt8) (w:Nat):∀ en:EnvU,lkU en s=none→FI.update 1 (.str s) (.int .u64 w) (en.map kvU)=some ((en ++ [(s,w)]).map kvU):=by
 intro en
 induction en with
 |nil=>intro _;rfl
 |cons p en ih =>
  obtain ⟨n,v⟩:=p
  intro h
  simp only [lkU] at h
  by_cases e:s=n
  ·simp [e] at h
  ·simp only [if_neg e] at h
   have e':(s == n)=false:=by simpa using e
   simp only [List.map_cons,kvU,FI.update,keyEq,bnd,List.cons_append]
   rw [if_neg (by simp [e'])]
   have:=ih h
   simp only [List.map_append,List.map_cons,List.map_nil,kvU] at this ⊢
   rw [this]
end Go.FI
namespace Go.FI
theorem put_w {n:List UInt8} {u t:Te} (h:t.k=2→t.s=n→t.w=u.w):(putT n u t).w=t.w:=by
 rw [putT_eq]
 split
 ·rename_i hk;exact (h hk.1 hk.2).symm
 ·rfl
theorem valT_put {n:List UInt8} {u:Te} {ρ:List UInt8→Nat} {ld:Nat→Nat→Nat→Nat} (t:Te) (h:∀ x ∈ nodesT t,x.k=2→x.s=n→x.w=u.w) :
  valT ρ ld (putT n u t)=valT (fun s=>if s=n then valT ρ ld u else ρ s) ld t:=by
 induction t using Tm'.ind with
 |h t ih =>
 have e2:=valT_eq (fun s=>if s=n then valT ρ ld u else ρ s) ld t
 by_cases hk:t.k=2∧t.s=n
 ·rw [putT_eq,if_pos hk,e2]
  unfold vop
  rw [if_neg (by omega),if_pos hk.1]
  simp [hk.2]
 ·rw [putT_eq,if_neg hk,valT_eq,e2]
  show vop ld t.k t.w t.b t.lo (ρ t.s) ((t.l.map (putT n u)).map Tm'.w) ((t.l.map (putT n u)).map (valT ρ ld))=_
  have h1:(t.l.map (putT n u)).map Tm'.w=t.l.map Tm'.w:=by
   rw [List.map_map]
   exact List.map_congr_left fun x hx=>put_w (h x (nodes_sub hx (mem_nodes x)))
  have h2:(t.l.map (putT n u)).map (valT ρ ld)=t.l.map (valT (fun s=>if s=n then valT ρ ld u else ρ s) ld):=by
   rw [List.map_map]
   exact List.map_congr_left fun x hx=>ih x hx fun y hy=>h y (nodes_sub hx hy)
  rw [h1,h2]
  exact vop_r fun k2=>(if_neg fun e=>hk ⟨k2,e⟩).symm
theorem varL_mem {xs:List Te} {p:List UInt8 × Int}:p ∈ varL xs ↔ ∃ y ∈ xs,y.k=2∧p=(y.s,y.w):=by
 induction xs with
 |nil=>simp [varL]
 |cons y ys ih =>
  simp only [varL]
  split
  ·rename_i hk
   rw [List.mem_cons,ih]
   constructor
   ·rintro (rfl | ⟨z,hz,h2⟩)
    ·exact ⟨y,by simp,hk,rfl⟩
    ·exact ⟨z,by simp [hz],h2⟩
   ·rintro ⟨z,hz,h2,h3⟩
    rcases List.mem_cons.1 hz with rfl | hz
    ·exact .inl h3
    ·exact .inr ⟨z,hz,h2,h3⟩
  ·rename_i hk
   rw [ih]
   constructor
   ·rintro ⟨z,hz,h2⟩;exact ⟨z,by simp [hz],h2⟩
   ·rintro ⟨z,hz,h2,h3⟩
    rcases List.mem_cons.1 hz with rfl | hz
    ·exact absurd h2 hk
    ·exact ⟨z,hz,h2,h3⟩
theorem nodesL_in {l:List Te} {y:Te}:y ∈ nodesL l ↔ ∃ x ∈ l,y ∈ nodesT x:=by
 induction l with
 |nil=>simp [nodesL]
 |cons a l ih=>rw [nodesL_cons,List.mem_append,ih];simp
theorem varList_put {n:List UInt8} {u:Te} (t:Te) (p:List UInt8 × Int) (hleaf:∀ x ∈ nodesT t,x.k=2→x.l=[]) :
  p ∈ varList (putT n u t) ↔ (p ∈ varList t∧p.1 ≠ n) ∨ (p ∈ varList u∧∃ w,(n,w) ∈ varList t):=by
 induction t using Tm'.ind with
 |h t ih =>
 have split':∀ q,q ∈ varList t ↔ (t.k=2∧q=(t.s,t.w)) ∨ ∃ x ∈ t.l,q ∈ varList x:=by
  intro q
  unfold varList
  rw [varL_mem]
  constructor
  ·rintro ⟨y,hy,h2,h3⟩
   rw [nodes_eq,List.mem_cons,nodesL_in] at hy
   rcases hy with rfl | ⟨x,hx,hy⟩
   ·exact .inl ⟨h2,h3⟩
   ·exact .inr ⟨x,hx,varL_mem.2 ⟨y,hy,h2,h3⟩⟩
  ·rintro (⟨h2,h3⟩ | ⟨x,hx,hy⟩)
   ·exact ⟨t,mem_nodes t,h2,h3⟩
   ·obtain ⟨y,hy,h2,h3⟩:=varL_mem.1 hy
    exact ⟨y,nodes_sub hx hy,h2,h3⟩
 have ih':=fun x hx=>ih x hx fun y hy=>hleaf y (nodes_sub hx hy)
 by_cases hk:t.k=2∧t.s=n
 ·rw [putT_eq,if_pos hk]
  have hl:=hleaf t (mem_nodes t) hk.1
  have hs:∀ q,q ∈ varList t ↔ q=(n,t.w):=fun q=>by
   rw [split',hl];simp [hk.1,hk.2]
  constructor
  ·intro h;exact .inr ⟨h,t.w,(hs _).2 rfl⟩
  ·rintro (⟨h,hne⟩ | ⟨h,_⟩)
   ·rw [hs] at h;subst h;exact absurd rfl hne
   ·exact h
 ·rw [putT_eq,if_neg hk]
  have hs:∀ q,q ∈ varList (Tm'.mk t.k t.w t.b t.s t.lo false (t.l.map (putT n u))) ↔ (t.k=2∧q=(t.s,t.w)) ∨ ∃ x ∈ t.l,q ∈ varList (putT n u x):=by
   intro q
   unfold varList
   rw [varL_mem,nodes_eq]
   simp only [Tm'.l,List.mem_cons,nodesL_in,List.mem_map]
   constructor
   ·rintro ⟨y,(rfl | ⟨_,⟨x,hx,rfl⟩,hy⟩),h2,h3⟩
    ·exact .inl ⟨h2,h3⟩
    ·exact .inr ⟨x,hx,varL_mem.2 ⟨y,hy,h2,h3⟩⟩
   ·rintro (⟨h2,h3⟩ | ⟨x,hx,hy⟩)
    ·exact ⟨_,.inl rfl,h2,h3⟩
    ·obtain ⟨y,hy,h2,h3⟩:=varL_mem.1 hy
     exact ⟨y,.inr ⟨_,⟨x,hx,rfl⟩,hy⟩,h2,h3⟩
  rw [hs]
  constructor
  ·rintro (⟨h2,rfl⟩ | ⟨x,hx,h⟩)
   ·exact .inl ⟨(split' _).2 (.inl ⟨h2,rfl⟩),fun e=>hk ⟨h2,e⟩⟩
   ·rcases (ih' x hx).1 h with ⟨h1,h2⟩ | ⟨h1,w,h2⟩
    ·exact .inl ⟨(split' _).2 (.inr ⟨x,hx,h1⟩),h2⟩
    ·exact .inr ⟨h1,w,(split' _).2 (.inr ⟨x,hx,h2⟩)⟩
  ·rintro (⟨h1,h2⟩ | ⟨h1,w,h2⟩)
   ·rcases (split' _).1 h1 with h3 | ⟨x,hx,h3⟩
    ·exact .inl h3
    ·exact .inr ⟨x,hx,(ih' x hx).2 (.inl ⟨h3,h2⟩)⟩
   ·rcases (split' _).1 h2 with ⟨h3,h4⟩ | ⟨x,hx,h3⟩
    ·cases h4;exact absurd ⟨h3,rfl⟩ hk
    ·exact .inr ⟨x,hx,(ih' x hx).2 (.inr ⟨h1,w,h3⟩)⟩
theorem varList_er (t:Te):varList (er t)=varList t:=by
 unfold varList
 rw [nodes_er]
 have:∀ xs:List Te,varL (xs.map er)=varL xs:=by
  intro xs
  induction xs with
  |nil=>rfl
  |cons x xs ih=>simp only [List.map_cons,varL,er_k,er_s,er_w,ih]
 exact this _
theorem TOk_of_er {a b:Te} (e:er a=er b) (h:TOk a):TOk b:=fun x hx=>by
 have h1:er x ∈ nodesT (er b):=by rw [nodes_er];exact List.mem_map_of_mem hx
 rw [← e,nodes_er] at h1
 obtain ⟨y,hy,h2⟩:=List.mem_map.1 h1
 have h3:=h y hy
 unfold nodeT at h3 ⊢
 have hk:(er y).k=(er x).k:=by rw [h2]
 have hw:(er y).w=(er x).w:=by rw [h2]
 have hb:(er y).b=(er x).b:=by rw [h2]
 have hs:(er y).s=(er x).s:=by rw [h2]
 have hlo:(er y).lo=(er x).lo:=by rw [h2]
 have hl:(er y).l.length=(er x).l.length:=by rw [h2]
 simp only [er_k,er_w,er_b,er_s,er_lo,er_l,List.length_map] at hk hw hb hs hlo hl
 rw [hk,hw,hb,hs,hlo,hl] at h3
 exact h3
end Go.FI
namespace Go.FI
theorem er_of_sameL {l:List Te} (h:∀ x ∈ l,∀ y,sameT x y=true→er x=er y):∀ m,sameL l m=true→l.map er=m.map er:=by
 induction l with
 |nil=>intro m e;cases m with | nil=>rfl | cons=>simp [sameL] at e
 |cons a l ih =>
  intro m e
  cases m with
  |nil=>simp [sameL] at e
  |cons b m =>
   simp only [sameL,Bool.and_eq_true] at e
   simp only [List.map_cons,h a (by simp) b e.1,ih (fun x hx=>h x (by simp [hx])) m e.2]
theorem er_of_same {a:Te}:∀ {b:Te},sameT a b=true→er a=er b:=by
 induction a using Tm'.ind with | h a ih =>
 intro b e
 rw [sameT_eq] at e
 simp only [Bool.and_eq_true,decide_eq_true_eq,beq_iff_eq] at e
 obtain ⟨⟨⟨⟨⟨h1,h2⟩,h3⟩,h4⟩,h5⟩,h6⟩:=e
 rw [er_eq a,er_eq b,h1,h2,h3,h4,h5,er_of_sameL (fun x hx y=>ih x hx) _ h6]
section
variable {n a b:Nat}
theorem o5l (h:b < 2 ^ n):opN 5 n 0 b=b:=by
 show (0 + b) % 2 ^ n=b
 rw [Nat.zero_add,Nat.mod_eq_of_lt h]
theorem o5r (h:a < 2 ^ n):opN 5 n a 0=a:=by
 show (a + 0) % 2 ^ n=a
 rw [Nat.add_zero,Nat.mod_eq_of_lt h]
theorem o6r (h:a < 2 ^ n):opN 6 n a 0=a:=by
 show (a + (2 ^ n - 0)) % 2 ^ n=a
 rw [Nat.sub_zero,Nat.add_mod_right,Nat.mod_eq_of_lt h]
theorem o6s (h:a < 2 ^ n):opN 6 n a a=0:=by
 show (a + (2 ^ n - a)) % 2 ^ n=0
 rw [show a + (2 ^ n - a)=2 ^ n by omega,Nat.mod_self]
theorem o7l0:opN 7 n 0 b=0:=by show 0 * b % 2 ^ n=0;rw [Nat.zero_mul,Nat.zero_mod]
theorem o7r0:opN 7 n a 0=0:=by show a * 0 % 2 ^ n=0;rw [Nat.mul_zero,Nat.zero_mod]
theorem o7l1 (h:b < 2 ^ n):opN 7 n 1 b=b:=by show 1 * b % 2 ^ n=b;rw [Nat.one_mul,Nat.mod_eq_of_lt h]
theorem o7r1 (h:a < 2 ^ n):opN 7 n a 1=a:=by show a * 1 % 2 ^ n=a;rw [Nat.mul_one,Nat.mod_eq_of_lt h]
theorem o8l0:opN 8 n 0 b=0:=by show 0 &&& b=0;rw [Nat.zero_and]
theorem o8r0:opN 8 n a 0=0:=by show a &&& 0=0;rw [Nat.and_zero]
theorem o8lt (h:b < 2 ^ n):opN 8 n (2 ^ n - 1) b=b:=by
 show (2 ^ n - 1) &&& b=b
 rw [Nat.and_comm,Nat.and_two_pow_sub_one_eq_mod,Nat.mod_eq_of_lt h]
theorem o8rt (h:a < 2 ^ n):opN 8 n a (2 ^ n - 1)=a:=by
 show a &&& (2 ^ n - 1)=a
 rw [Nat.and_two_pow_sub_one_eq_mod,Nat.mod_eq_of_lt h]
theorem o8s:opN 8 n a a=a:=by show a &&& a=a;rw [Nat.and_self]
theorem o9lt (h:b < 2 ^ n):opN 9 n (2 ^ n - 1) b=2 ^ n - 1:=by
 show (2 ^ n - 1) ||| b=2 ^ n - 1
 refine Nat.eq_of_testBit_eq fun i=>?_
 rw [Nat.testBit_or,Nat.testBit_two_pow_sub_one]
 by_cases hi:i < n
 ·simp [hi]
 ·have:b < 2 ^ i:=Nat.lt_of_lt_of_le h (Nat.pow_le_pow_right (by decide) (by omega))
  simp [hi,Nat.testBit_lt_two_pow this]
theorem o9rt (h:a < 2 ^ n):opN 9 n a (2 ^ n - 1)=2 ^ n - 1:=by
 show a ||| (2 ^ n - 1)=2 ^ n - 1
 rw [Nat.or_comm];exact o9lt h
theorem o9l0:opN 9 n 0 b=b:=by show 0 ||| b=b;rw [Nat.zero_or]
theorem o9r0:opN 9 n a 0=a:=by show a ||| 0=a;rw [Nat.or_zero]
theorem o9s:opN 9 n a a=a:=by show a ||| a=a;rw [Nat.or_self]
theorem o10l:opN 10 n 0 b=b:=by show 0 ^^^ b=b;rw [Nat.zero_xor]
theorem o10r:opN 10 n a 0=a:=by show a ^^^ 0=a;rw [Nat.xor_zero]
theorem o10s:opN 10 n a a=0:=by show a ^^^ a=0;rw [Nat.xor_self]
theorem o11r (h:a < 2 ^ n):opN 11 n a 0=a:=by show a * 2 ^ 0 % 2 ^ n=a;rw [Nat.pow_zero,Nat.mul_one,Nat.mod_eq_of_lt h]
theorem o11f (h:n ≤ b):opN 11 n a b=0:=by
 show a * 2 ^ b % 2 ^ n=0
 rw [show b=n + (b - n) by omega,Nat.pow_add,← Nat.mul_assoc,Nat.mul_right_comm,Nat.mul_mod_left]
theorem o11l:opN 11 n 0 b=0:=by show 0 * 2 ^ b % 2 ^ n=0;rw [Nat.zero_mul,Nat.zero_mod]
theorem o12r:opN 12 n a 0=a:=by show a / 2 ^ 0=a;rw [Nat.pow_zero,Nat.div_one]
theorem o12f (h:a < 2 ^ n) (hb:n ≤ b):opN 12 n a b=0:=Nat.div_eq_of_lt (Nat.lt_of_lt_of_le h (Nat.pow_le_pow_right (by decide) hb))
theorem o12l:opN 12 n 0 b=0:=Nat.zero_div _
theorem toI_mod (h:a < 2 ^ n):(toI n a % 2 ^ n).toNat=a:=by
 have e:(2:Int) ^ n=((2 ^ n:Nat):Int):=(pow_nat n).symm
 unfold toI
 split
 ·rw [e,← Int.natCast_emod,Int.toNat_natCast,Nat.mod_eq_of_lt h]
 ·rw [Int.sub_emod_right,e,← Int.natCast_emod,Int.toNat_natCast,Nat.mod_eq_of_lt h]
theorem o13r (h:a < 2 ^ n):opN 13 n a 0=a:=by
 show (toI n a / 2 ^ (min 0 64) % 2 ^ n).toNat=a
 rw [show min 0 64=0 from rfl,Int.pow_zero,Int.ediv_one,toI_mod h]
theorem toI_0:toI n 0=0:=by
 unfold toI
 rw [if_pos (Nat.pow_pos (by decide))];rfl
theorem o13l:opN 13 n 0 b=0:=by
 show (toI n 0 / 2 ^ (min b 64) % 2 ^ n).toNat=0
 rw [toI_0,Int.zero_ediv,Int.zero_emod];rfl
theorem o14r:opN 14 n a 1=a:=by show (if (1:Nat)=0 then 2 ^ n - 1 else a / 1)=a;rw [if_neg (by decide),Nat.div_one]
theorem o15r:opN 15 n a 1=0:=by show (if (1:Nat)=0 then a else a % 1)=0;rw [if_neg (by decide),Nat.mod_one]
theorem o16s:opN 16 n a a=1:=by show (if a=a then 1 else 0)=1;rw [if_pos rfl]
theorem o17s:opN 17 n a a=0:=by show (if a < a then 1 else 0)=0;rw [if_neg (Nat.lt_irrefl _)]
theorem o17r:opN 17 n a 0=0:=by show (if a < 0 then 1 else 0)=0;rw [if_neg (Nat.not_lt_zero _)]
theorem o18s:opN 18 n a a=0:=by show (if toI n a < toI n a then 1 else 0)=0;rw [if_neg (by omega)]
theorem u3 (h:a < 2 ^ n):unN 3 n (unN 3 n a)=a:=by
 show 2 ^ n - 1 - (2 ^ n - 1 - a)=a
 omega
theorem u4 (h:a < 2 ^ n):unN 4 n (unN 4 n a)=a:=by
 show (2 ^ n - (2 ^ n - a) % 2 ^ n) % 2 ^ n=a
 by_cases h0:a=0
 ·subst h0;rw [Nat.sub_zero,Nat.mod_self,Nat.sub_zero,Nat.mod_self]
 ·rw [Nat.mod_eq_of_lt (show 2 ^ n - a < 2 ^ n by omega),Nat.mod_eq_of_lt (by omega)];omega
theorem exN_same {s:Bool} (h:a < 2 ^ n):exN s n n a=a:=by
 unfold exN
 split
 ·exact toI_mod h
 ·rfl
theorem two_le {m n:Nat} (h:n ≤ m):(2:Int) ^ n ≤ 2 ^ m:=pow_le h
theorem exN_twice {s:Bool} {n m k:Nat} (h0:1 ≤ n) (h1:n ≤ m) (h2:m ≤ k) (h:a < 2 ^ n):exN s m k (exN s n m a)=exN s n k a:=by
 cases s with
 |false=>rfl
 |true =>
  show (toI m (toI n a % 2 ^ m).toNat % 2 ^ k).toNat=(toI n a % 2 ^ k).toNat
  congr 2
  have e1:(2:Int) ^ n=2 ^ (n - 1) + 2 ^ (n - 1):=by
   obtain ⟨j,rfl⟩:∃ j,n=j + 1:=⟨n - 1,by omega⟩
   rw [Nat.add_sub_cancel,Int.pow_succ];omega
  have e2:(2:Int) ^ m=2 ^ (m - 1) + 2 ^ (m - 1):=by
   obtain ⟨j,rfl⟩:∃ j,m=j + 1:=⟨m - 1,by omega⟩
   rw [Nat.add_sub_cancel,Int.pow_succ];omega
  have l1:=two_le (show n - 1 ≤ m - 1 by omega)
  have l2:=pow_pos' (n - 1)
  have q:=toI_lo h0 h
  by_cases hc:0 ≤ toI n a
  ·rw [Int.emod_eq_of_lt hc (by omega)]
   have h3:(toI n a).toNat < 2 ^ (m - 1):=by
    have:((2 ^ (m - 1):Nat):Int)=2 ^ (m - 1):=pow_nat _
    omega
   unfold toI at h3 ⊢
   rw [if_pos h3]
   unfold toI at hc
   omega
  ·have h4:toI n a % 2 ^ m=toI n a + 2 ^ m:=by
    rw [← Int.add_emod_right,Int.emod_eq_of_lt (by omega) (by omega)]
   rw [h4]
   have h3:¬ (toI n a + 2 ^ m).toNat < 2 ^ (m - 1):=by
    have:((2 ^ (m - 1):Nat):Int)=2 ^ (m - 1):=pow_nat _
    omega
   generalize toI n a=z at *
   show (if (z + 2 ^ m).toNat < 2 ^ (m - 1) then (((z + 2 ^ m).toNat:Nat):Int) else ((z + 2 ^ m).toNat:Int) - 2 ^ m)=z
   rw [if_neg h3];omega
theorem cut_cut {i j k l:Nat} (h:l + k ≤ j):a / 2 ^ i % 2 ^ j / 2 ^ l % 2 ^ k=a / 2 ^ (l + i) % 2 ^ k:=by
 refine Nat.eq_of_testBit_eq fun q=>?_
 simp only [Nat.testBit_mod_two_pow,Nat.testBit_div_two_pow]
 by_cases hq:q < k
 ·have:l + q < j:=by omega
  simp [hq]
  rw [show q + l + i=q + (l + i) by omega,decide_eq_true (show q + l < j by omega),Bool.true_and]
 ·simp [hq]
end
end Go.FI
namespace Go.FI
theorem elems_own {h:Heap} {id:Nat} {xs:List FV} (hg:hget h id=some (.row 6 xs) ∨ hget h id=some (.fro 6 xs)):elems h (.sref 6 id xs.length 0 xs.length)=some xs:=by
 rcases hg with hg | hg
 ·rw [el_r,hg,elRow_r,Ck_pos ⟨rfl,by omega⟩,cut_d];simp
 ·simp [elems,hg,chk,cut]
theorem frz_own {h:Heap} {id:Nat} {l:List Te} {k w b:Int} {s:List UInt8} {lo:Int} (hg:hget h id=some (.row 6 (l.map tV)) ∨ hget h id=some (.fro 6 (l.map tV))) (hl:l.length ≤ 1000000) {cs:List FV} (hc:pures cs=true) (hcl:cs.length ≤ 10) :
  frzs h deep (.agg [.int .u8 k,.int .i64 w,.int .u64 b,.str s,.int .i64 lo,.sref 6 id l.length 0 l.length]::cs)=some (.agg [.int .u8 k,.int .i64 w,.int .u64 b,.str s,.int .i64 lo,.lst false (l.map tV)]::cs):=by
 have he:elems h (.sref 6 id l.length 0 l.length)=some (l.map tV):=by
  have:=elems_own hg
  simpa using this
 have key:∀ m,2000000 ≤ m→frzs h (m + 9) (.agg [.int .u8 k,.int .i64 w,.int .u64 b,.str s,.int .i64 lo,.sref 6 id l.length 0 l.length]::cs)=some (.agg [.int .u8 k,.int .i64 w,.int .u64 b,.str s,.int .i64 lo,.lst false (l.map tV)]::cs):=by
  intro m hm
  refine frzs_c' ?_ (frzs_pure hc (by omega))
  rw [show m + 8=(m + 7) + 1 from rfl,fz_agg (by simp),frzs_c' (v':=.int .u8 k) (r':=[.int .i64 w,.int .u64 b,.str s,.int .i64 lo,.lst false (l.map tV)]) frz_int]
  ·rfl
  rw [show m + 6=(m + 5) + 1 from rfl]
  refine frzs_c' frz_int ?_
  rw [show m + 5=(m + 4) + 1 from rfl]
  refine frzs_c' frz_int ?_
  rw [show m + 4=(m + 3) + 1 from rfl]
  refine frzs_c' frz_str ?_
  rw [show m + 3=(m + 2) + 1 from rfl]
  refine frzs_c' frz_int ?_
  rw [show m + 2=(m + 1) + 1 from rfl]
  refine frzs_c' ?_ (by cases m<;>rfl)
  rw [fz_ref (by decide),he,B_some,frzs_pure (pu_Ts l) (by simp;omega),B_some]
 exact key (deep - 9) (by decide)
theorem idV_pure {h:Heap} {n:Nat} {v:FV} (hp:pure_ v=true):idV h n v=[]:=by
 cases n with
 |zero=>rfl
 |succ n=>unfold idV;rw [if_pos hp]
theorem idL_pure {h:Heap}:∀ {l:List FV} {n:Nat},pures l=true→idL h n l=[]:=by
 intro l
 induction l with
 |nil=>intro n _;cases n<;>rfl
 |cons v l ih =>
  intro n hp
  simp only [pures,Bool.and_eq_true] at hp
  cases n with
  |zero=>rfl
  |succ n=>unfold idL;rw [idV_pure hp.1,ih hp.2];rfl
theorem idL_own {h:Heap} {id:Nat} {l:List Te} {k w b:Int} {s:List UInt8} {lo:Int} (hg:hget h id=some (.row 6 (l.map tV)) ∨ hget h id=some (.fro 6 (l.map tV))) {cs:List FV} (hc:pures cs=true) :
  idL h deep (.agg [.int .u8 k,.int .i64 w,.int .u64 b,.str s,.int .i64 lo,.sref 6 id l.length 0 l.length]::cs)=[id]:=by
 have he:elems h (.sref 6 id l.length 0 l.length)=some (l.map tV):=by
  have:=elems_own hg
  simpa using this
 have key:∀ m,idL h (m + 9) (.agg [.int .u8 k,.int .i64 w,.int .u64 b,.str s,.int .i64 lo,.sref 6 id l.length 0 l.length]::cs)=[id]:=by
  intro m
  have e1:∀ q,idV h (q + 1) (.sref 6 id l.length 0 l.length)=[id]:=fun q=>by
   unfold idV
   rw [if_neg (by simp [pure_])]
   show id::(match elems h (.sref 6 id l.length 0 l.length) with | some xs=>idL h q xs | none=>[])=[id]
   rw [he]
   simp only
   rw [idL_pure (pu_Ts l)]
  have e2:∀ (q:Nat) (v:FV) (r:List FV),idL h (q + 1) (v::r)=idV h q v ++ idL h q r:=fun q v r=>by rw [idL]
  have e3:idV h (m + 8) (.agg [.int .u8 k,.int .i64 w,.int .u64 b,.str s,.int .i64 lo,.sref 6 id l.length 0 l.length])=[id]:=by
   rw [idV,if_neg (by simp [pure_,pures])]
   show idL h (m + 7) [.int .u8 k,.int .i64 w,.int .u64 b,.str s,.int .i64 lo,.sref 6 id l.length 0 l.length]=[id]
   rw [e2,e2,e2,e2,e2,e2,e1,idV_pure rfl,idV_pure rfl,idV_pure rfl,idV_pure rfl,idV_pure rfl,idL_pure rfl];rfl
  rw [e2,e3,idL_pure hc];rfl
 exact key (deep - 9)
theorem froze_row {h:Heap} {id es:Nat} {xs:List FV} (hg:hget h id=some (.row es xs)):froze h [id]=hset h id (.fro es xs):=by
 unfold froze;rw [hg];rfl
theorem froze_fro {h:Heap} {id es:Nat} {xs:List FV} (hg:hget h id=some (.fro es xs)):froze h [id]=h:=by
 unfold froze;rw [hg];rfl
theorem lim_isc [Sys] {T:Tab} {f:Nat} {d:Fn} {args ws:List FV} {h:Heap} {nx:Nat} {r:FV} (ht:tget T f=some (.fn d)) (hm:d.mode=.isc) (hn:args.length=d.np) (hf:frzs h deep args=some ws)
  (hr:@Ok Out (runs T [.code d.body] (params 0 ws) [] 0) ⟨fun x=>resV d.res x=some r⟩) (hlt:f < RB:=by decide):lim T f args h nx=some (r,froze h (idL h deep args),nx):=by
 obtain ⟨x,h1,h2⟩:=hr
 rw [lim_fn ht hlt]
 unfold enterWith
 rw [chk,if_pos hn,hm]
 simp only
 rw [hf]
 show (bnd (runs T [.code d.body] (params 0 ws) [] 0) fun x=>bnd (finish d x) fun v=>bnd (frz x.2.2.1 deep v) fun r=>some (r,froze h (idL h deep args),nx))=_
 rw [h1]
 show (bnd (finish d x) fun v=>bnd (frz x.2.2.1 deep v) fun r=>some (r,froze h (idL h deep args),nx))=_
 obtain ⟨e,m',h',nx'⟩:=x
 have key:∀ {vs:Option (List FV)},(@B (List FV) FV vs ⟨fun vs=>frz h' deep (result vs)⟩)=some r→(bnd (bnd vs fun vs=>some (result vs)) fun v=>bnd (frz h' deep v) fun r=>some (r,froze h (idL h deep args),nx))=some (r,froze h (idL h deep args),nx):=by
  intro vs hv
  cases vs with
  |none=>cases hv
  |some vs =>
   have hv:frz h' deep (result vs)=some r:=hv
   show (bnd (frz h' deep (result vs)) fun r=>some (r,froze h (idL h deep args),nx))=_
   rw [hv]
   rfl
 cases e with
 |xt i=>cases h2
 |fin=>exact key h2
 |ret=>exact key h2
 |pan u =>
  have h2:frz h' deep (.pan u)=some r:=h2
  show (bnd (frz h' deep (.pan u)) fun r=>some (r,froze h (idL h deep args),nx))=_
  rw [h2]
  rfl
end Go.FI
