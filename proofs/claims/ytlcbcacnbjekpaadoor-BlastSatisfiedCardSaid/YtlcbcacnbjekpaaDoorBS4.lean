/- Parts of the proof, one behind the other. -/
import Derived.Test.YtlcbcacnbjekpaaDoorBS3
import Derived.Sort.LotA
import Derived.Sort.LotB
import Derived.Sort.LotC
import Derived.Sort.LotD3
import Derived.Test.YtlcbcacnbjekpaaDoorBS1
import Derived.ChangeShapes
import Derived.ChangeSame
import Derived.Carry
import Derived.OpenShut
set_option linter.all false
namespace Go.FI
noncomputable section
section
variable {T:Tab} {cal:Call} {id:Nat} {d:Option Nat} {re:List (Option (Nat × Bool) × Option Nat × Nat × Nat)} {m:Tm} {h:Heap} {nx:Nat} {x y z:X} {r:List G} {k:List I}
theorem np_l {f:Nat} {a:List FV}:np (lim T) f a h nx=@B (FV × Heap × Nat) (FV × Heap × Nat) (lim T f a h nx) ⟨fun r=>@If (Option (FV × Heap × Nat)) (isPan r.1) ⟨none,some r⟩⟩:=by
 unfold np
 show bnd _ _=bnd _ _
 congr 1
 funext r
 cases hp:isPan r.1<;>simp [chk,If,hp]
theorem pan_i {k:IntKind} {n:Int}:isPan (.int k n)=false:=rfl
theorem pan_b {b:Bool}:isPan (.bool b)=false:=rfl
theorem pan_s {b:List UInt8}:isPan (.str b)=false:=rfl
theorem pan_a {cs:List FV}:isPan (.agg cs)=false:=rfl
theorem pan_t {cs:List FV}:isPan (.tup cs)=false:=rfl
theorem pan_l {b:Bool} {cs:List FV}:isPan (.lst b cs)=false:=rfl
theorem pan_e {cs:List FV} {o:Nat}:isPan (.eptr cs o)=false:=rfl
theorem pan_p {a b c e:Nat}:isPan (.ptr a b c e)=false:=rfl
theorem pan_r {a b c e f:Nat}:isPan (.sref a b c e f)=false:=rfl
theorem pan_m {a:Nat}:isPan (.map a)=false:=rfl
theorem pan_f {a:Nat} {cs:List FV}:isPan (.fn a cs)=false:=rfl
theorem pan_c {a:Nat} {v:FV}:isPan (.ifc a v)=false:=rfl
theorem pan_n:isPan .nilp=false:=rfl
theorem pan_nf:isPan .nilf=false:=rfl
theorem pan_nm:isPan .nilm=false:=rfl
theorem pan_ni:isPan .nili=false:=rfl
theorem pan_pan {v:FV}:isPan (.pan v)=true:=rfl
def snV (n:Bool):FV→Option FV
 |.lst _ (_::_)=>some (.bool n)
 |.sref _ _ _ _ (_ + 1)=>some (.bool n)
 |_=>none
theorem r_sn {n:Bool}:rops cal id (⟨d,none,.sn n x,[]⟩::r) m h nx=@B FV (Tm × Heap × Nat) (snV n (ev m x)) ⟨fun v=>rops cal (id + 1) r (put m d v) h nx⟩:=rops_v rfl
theorem snV_l {n e:Bool} {v:FV} {vs:List FV}:snV n (.lst e (v::vs))=some (.bool n):=rfl
def xaV (n es:Nat) (ag:Option Nat):FV→FV→Option FV
 |.agg cs,.int _ k=>@Ck FV (0 ≤ k∧k < n) ⟨fun _=>cellsAt cs ag (k.toNat * es)⟩
 |_,_=>none
theorem xaV_a {n es:Nat} {ag:Option Nat} {cs:List FV} {k:IntKind} {j:Int}:xaV n es ag (.agg cs) (.int k j)=@Ck FV (0 ≤ j∧j < n) ⟨fun _=>cellsAt cs ag (j.toNat * es)⟩:=rfl
theorem r_xa {n es:Nat} {ag:Option Nat}:rops cal id (⟨d,none,.xa n es ag x y,[]⟩::r) m h nx=@B FV (Tm × Heap × Nat) (xaV n es ag (ev m x) (ev m y)) ⟨fun v=>rops cal (id + 1) r (put m d v) h nx⟩:=rops_v (by
 show bnd (opv h m (.xa n es ag x y)) _=_
 congr 1
 simp only [opv]
 cases ev m x<;>(try rfl)<;>cases ev m y<;>(try rfl)
 simp only [xaV,Ck_chk])
theorem aaV_e {n es o:Nat} {cs:List FV} {k:IntKind} {j:Int}:aaV n es (.eptr cs o) (.int k j)=@Ck FV (0 ≤ j∧j < n) ⟨fun _=>some (.eptr cs (o + j.toNat * es))⟩:=rfl
theorem aaV_p {n es i s l o:Nat} {k:IntKind} {j:Int}:aaV n es (.ptr i s l o) (.int k j)=@Ck FV (0 ≤ j∧j < n) ⟨fun _=>some (.ptr i s l (o + j.toNat * es))⟩:=rfl
def csV (h:Heap) (v:FV):Option FV:=@B (List FV) FV (sliceElems h v) ⟨fun xs=>@B (List UInt8) FV (bytesV xs) ⟨fun s=>some (.str s)⟩⟩
theorem r_cs:rops cal id (⟨d,none,.cs x,[]⟩::r) m h nx=@B FV (Tm × Heap × Nat) (csV h (ev m x)) ⟨fun v=>rops cal (id + 1) r (put m d v) h nx⟩:=rops_v rfl
theorem csV_l {e:Bool} {xs:List FV}:csV h (.lst e xs)=@B (List UInt8) FV (bytesV xs) ⟨fun s=>some (.str s)⟩:=rfl
theorem csV_r {es i st off l:Nat}:csV h (.sref es i st off l)=@B (List FV) FV (elems h (.sref es i st off l)) ⟨fun xs=>@B (List UInt8) FV (bytesV xs) ⟨fun s=>some (.str s)⟩⟩:=rfl
def taV (t:Nat) (zv:FV):FV→Option FV
 |.ifc u v=>some (if u=t then .tup [v,.bool true] else .tup [zv,.bool false])
 |.nili=>some (.tup [zv,.bool false])
 |_=>none
theorem r_ta {t:Nat} {zv:FV}:rops cal id (⟨d,none,.ta t zv x,[]⟩::r) m h nx=@B FV (Tm × Heap × Nat) (taV t zv (ev m x)) ⟨fun v=>rops cal (id + 1) r (put m d v) h nx⟩:=rops_v rfl
theorem taV_i {t u:Nat} {zv v:FV}:taV t zv (.ifc u v)=some (if u=t then .tup [v,.bool true] else .tup [zv,.bool false]):=rfl
theorem taV_n {t:Nat} {zv:FV}:taV t zv .nili=some (.tup [zv,.bool false]):=rfl
def isnV (n:Bool):FV→Option FV
 |.ifc _ _=>some (.bool n)
 |.nili=>some (.bool !n)
 |_=>none
theorem r_isn {n:Bool}:rops cal id (⟨d,none,.isn n x,[]⟩::r) m h nx=@B FV (Tm × Heap × Nat) (isnV n (ev m x)) ⟨fun v=>rops cal (id + 1) r (put m d v) h nx⟩:=rops_v rfl
theorem isnV_i {n:Bool} {u:Nat} {v:FV}:isnV n (.ifc u v)=some (.bool n):=rfl
theorem isnV_n {n:Bool}:isnV n .nili=some (.bool !n):=rfl
def ibV:FV→FV→Option FV
 |.str s,.int .u8 n=>some (.int .i64 (idxB s n.toNat.toUInt8))
 |_,_=>none
theorem r_ib:rops cal id (⟨d,none,.ib x y,[]⟩::r) m h nx=@B FV (Tm × Heap × Nat) (ibV (ev m x) (ev m y)) ⟨fun v=>rops cal (id + 1) r (put m d v) h nx⟩:=rops_v rfl
theorem ibV_s {s:List UInt8} {n:Int}:ibV (.str s) (.int .u8 n)=some (.int .i64 (idxB s n.toNat.toUInt8)):=rfl
theorem lim_iso_any {f:Nat} {d:Fn} {args:List FV} {r:FV} {h0 h':Heap} {nx0 nx':Nat} (ht:tget T f=some (.fn d)) (hm:d.mode=.iso) (hl:lim T f args h0 nx0=some (r,h',nx')) (hlt:f < RB:=by decide):∀ h nx,lim T f args h nx=some (r,h,nx):=by
 intro h nx
 rw [lim_fn ht hlt] at hl ⊢
 unfold enterWith at hl ⊢
 rw [hm] at hl ⊢
 simp only at hl ⊢
 obtain ⟨h1,hl⟩:=chk_some hl
 obtain ⟨h2,hl⟩:=chk_some hl
 rw [chk,if_pos h1,chk,if_pos h2]
 obtain ⟨x,h3,hl⟩:=bnd_some hl
 obtain ⟨v,h4,hl⟩:=bnd_some hl
 obtain ⟨r',h5,hl⟩:=bnd_some hl
 cases hl
 exact bnd_mk h3 (bnd_mk h4 (bnd_mk h5 rfl))
def lkR (zv:FV):Option FV→FV
 |some v=>.tup [v,.bool true]
 |none=>.tup [zv,.bool false]
def lkM (kt:Nat) (zv:FV) (ok:Bool) (kv:FV):Option Obj→Option FV
 |some (.mp en)=>@B (Option FV) FV (find kt kv en) ⟨fun r=>some (if ok=true then lkR zv r else r.getD zv)⟩
 |_=>none
theorem lookup_m {kt id:Nat} {zv kv:FV} {ok:Bool}:lookup h kt zv ok kv (.map id)=lkM kt zv ok kv (hget h id):=by
 simp only [lookup,lkM]
 cases hget h id with
 |none=>rfl
 |some o =>
  cases o with
  |mp en =>
   simp only [B]
   cases find kt kv en with
   |none=>rfl
   |some r=>cases r<;>cases ok<;>rfl
  |_=>rfl
theorem lkM_t {kt:Nat} {zv kv:FV} {en:List (FV × FV)}:lkM kt zv true kv (some (.mp en))=@B (Option FV) FV (find kt kv en) ⟨fun r=>some (lkR zv r)⟩:=rfl
theorem lkM_f {kt:Nat} {zv kv:FV} {en:List (FV × FV)}:lkM kt zv false kv (some (.mp en))=@B (Option FV) FV (find kt kv en) ⟨fun r=>some (r.getD zv)⟩:=rfl
theorem lkR_s {zv v:FV}:lkR zv (some v)=.tup [v,.bool true]:=rfl
theorem lkR_n {zv:FV}:lkR zv none=.tup [zv,.bool false]:=rfl
def muM (h:Heap) (i kt:Nat) (kv v:FV):Option Obj→Option Heap
 |some (.mp en)=>@B (List (FV × FV)) Heap (update kt kv v en) ⟨fun en'=>some (hset h i (.mp en'))⟩
 |_=>none
theorem muV_m {kt i:Nat} {kv v:FV}:muV h kt kv v (.map i)=muM h i kt kv v (hget h i):=by
 simp only [muV,muM]
 cases hget h i with
 |none=>rfl
 |some o=>cases o<;>rfl
theorem muM_m {kt i:Nat} {kv v:FV} {en:List (FV × FV)}:muM h i kt kv v (some (.mp en))=@B (List (FV × FV)) Heap (update kt kv v en) ⟨fun en'=>some (hset h i (.mp en'))⟩:=rfl
def mapLenO:Option Obj→Option FV
 |some (.mp en)=>some (.int .i64 en.length)
 |_=>none
theorem mapLen_m {i:Nat}:mapLen h (.map i)=mapLenO (hget h i):=by
 simp only [mapLen,mapLenO]
 cases hget h i with
 |none=>rfl
 |some o=>cases o<;>rfl
theorem mapLenO_m {en:List (FV × FV)}:mapLenO (some (.mp en))=some (.int .i64 en.length):=rfl
theorem cells_m {i:Nat}:(FV.map i).cells=[.map i]:=rfl
theorem ok_m {i:Nat}:(FV.map i).ok=true:=rfl
theorem one_m {i:Nat}:(FV.map i).one=true:=rfl
theorem cells_nm:FV.nilm.cells=[.nilm]:=rfl
theorem ok_nm:FV.nilm.ok=true:=rfl
theorem one_nm:FV.nilm.one=true:=rfl
theorem resh_nm {c:FV} {cs:List FV}:reshape .nilm (c::cs)=c:=rfl
theorem resh_m {i:Nat} {c:FV} {cs:List FV}:reshape (.map i) (c::cs)=c:=rfl
def fnV:FV→Option (Nat × List FV)
 |.fn q caps=>some (q,caps)
 |_=>none
theorem fnV_f {q:Nat} {caps:List FV}:fnV (.fn q caps)=some (q,caps):=rfl
theorem w_rf {f:Nat} {x:X} {ct:List Nat} :
  runs T (.code (.rf f x ct)::k) m h nx=@B (Nat × List FV) Out (fnV (ev m x)) ⟨fun p=>@B (FV × Heap × Nat) Out (np (lim T) p.1 (.yl f nx (evs m (ct.map .t))::p.2) ((nx,.lp 0 0)::h) (nx + 1)) ⟨rfK T k m nx⟩⟩:=by
 generalize hx:ev m x=v
 cases v with
 |fn q caps=>exact runs_rf hx
 |_=>exact runs_none fun n=>by simp only [run,hx]
theorem fz_fn {n f:Nat} {cs:List FV} (hl:cs.length ≤ n):frz h (n + 1) (.fn f cs)=@B (List FV) FV (frzs h n cs) ⟨fun r=>some (.fn f r)⟩:=by
 cases hp:pure_ (.fn f cs) with
 |false=>simp only [frz,hp,Bool.false_eq_true,if_false];rfl
 |true=>rw [frz_pure hp,frzs_pure (by simpa [pure_] using hp) hl];rfl
theorem fz_ptr {n i s j o:Nat}:frz h (n + 1) (.ptr i s j o)=@B FV FV (elemAt h i s j) ⟨fun e=>@B (List FV) FV (frzs h n e.cells) ⟨fun r=>@Ck FV (r.length ≠ 0) ⟨fun _=>some (.eptr r o)⟩⟩⟩:=by
 simp only [frz,pure_,Bool.false_eq_true,if_false]
 show bnd _ _=bnd _ _
 congr 1;funext e
 show bnd _ _=bnd _ _
 congr 1;funext r
 exact Ck_chk
theorem Ok_call {γ δ:Type} {f:Nat} {a:List FV} {F:(FV × Heap × Nat)→Option γ} {G:γ→Option δ} {ps:FV × Heap × Nat→Prop} {q:Post δ} (hl:∃ r,lim T f a h nx=some r∧ps r) (hk:∀ r,ps r→isPan r.1=false∧@Ok δ (@B γ δ (F r) ⟨G⟩) q) :
  @Ok δ (@B γ δ (@B (FV × Heap × Nat) γ (@B (FV × Heap × Nat) (FV × Heap × Nat) (lim T f a h nx) ⟨fun r=>@If (Option (FV × Heap × Nat)) (isPan r.1) ⟨none,some r⟩⟩) ⟨F⟩) ⟨G⟩) q:=by
 obtain ⟨r,h1,h2⟩:=hl
 obtain ⟨h3,h4⟩:=hk r h2
 rw [h1,B_some,h3,If_f,B_some];exact h4
def rfV (T:Tab) (k:List I) (m:Tm) (nx:Nat) (h':Heap) (nx':Nat):Option Obj→Option Out
 |some (.lp st jp)=>@Ck Out (st ≠ 1) ⟨fun _=>runs T (jpI jp k) m (hset h' nx (.lp 3 jp)) nx'⟩
 |_=>none
theorem rfK_V {v:FV} {h':Heap} {nx':Nat}:rfK T k m nx (v,h',nx')=rfV T k m nx h' nx' (hget h' nx):=by
 simp only [rfK,rfV]
 cases hget h' nx with
 |none=>rfl
 |some o=>cases o<;>first | rfl | exact Ck_chk
theorem rfV_0 {h':Heap} {nx':Nat}:rfV T k m nx h' nx' (some (.lp 0 0))=runs T k m (hset h' nx (.lp 3 0)) nx':=Ck_pos (by decide)
theorem rfV_1 {h':Heap} {nx':Nat}:rfV T k m nx h' nx' (some (.lp 2 1))=runs T (.code .rt::k) m (hset h' nx (.lp 3 1)) nx':=Ck_pos (by decide)
theorem rfV_2 {h':Heap} {nx' e:Nat}:rfV T k m nx h' nx' (some (.lp 2 (e + 2)))=runs T (.code (.xt e)::k) m (hset h' nx (.lp 3 (e + 2))) nx':=Ck_pos (by decide)
def begV (T:Tab) (k:List I) (m:Tm) (h:Heap) (nx id:Nat):Option Obj→Option Out
 |some (.lp 0 jp)=>runs T k m (hset h id (.lp 1 jp)) nx
 |_=>none
theorem w_beg {id:Nat}:runs T (.beg id::k) m h nx=begV T k m h nx id (hget h id):=by
 rw [runs_beg]
 unfold begV
 cases hget h id with
 |none=>rfl
 |some o=>cases o<;>rfl
theorem begV_l {id jp:Nat}:begV T k m h nx id (some (.lp 0 jp))=runs T k m (hset h id (.lp 1 jp)) nx:=rfl
def lvV (id:Nat) (h:Heap) (nx:Nat) (v:FV) (o:Obj):Option Obj→Option (FV × Heap × Nat)
 |some (.lp _ _)=>some (v,hset h id o,nx)
 |_=>none
theorem leave_fin:leave id (.fin,m,h,nx)=lvV id h nx (.bool true) (.lp 0 0) (hget h id):=by
 simp only [leave,lvV]
 cases hget h id with
 |none=>rfl
 |some o=>cases o<;>rfl
theorem leave_ret:leave id (.ret,m,h,nx)=lvV id h nx (.bool false) (.lp 2 1) (hget h id):=by
 simp only [leave,lvV]
 cases hget h id with
 |none=>rfl
 |some o=>cases o<;>rfl
theorem leave_xt {e:Nat}:leave id (.xt e,m,h,nx)=lvV id h nx (.bool false) (.lp 2 (e + 2)) (hget h id):=by
 simp only [leave,lvV]
 cases hget h id with
 |none=>rfl
 |some o=>cases o<;>rfl
theorem lvV_l {v:FV} {o:Obj} {a b:Nat}:lvV id h nx v o (some (.lp a b))=some (v,hset h id o,nx):=rfl
theorem w_xe {e:Nat}:runs T [.code (.xt e)] m h nx=some (.xt e,m,h,nx):=by rw [runs_xt];rfl
theorem zip_n {ts:List Nat}:zipTm ts []=[]:=by cases ts<;>rfl
theorem zip_m {vs:List FV}:zipTm [] vs=[]:=rfl
theorem zip_c {t:Nat} {ts:List Nat} {v:FV} {vs:List FV}:zipTm (t::ts) (v::vs)=(t,v)::zipTm ts vs:=rfl
def rqK (T:Tab) (keep:List Nat) (k:List I) (x:Option FV × Tm × Heap × Nat):Option Out :=
 match x.1 with
 |none=>runs T k (keepOf x.2.1 keep) x.2.2.1 x.2.2.2
 |some v=>some (.pan v,x.2.1,x.2.2.1,x.2.2.2)
theorem w_rq {gs:List G} {keep:List Nat}:runs T (.code (.rq gs keep)::k) m h nx=@B (Option FV × Tm × Heap × Nat) Out (ropsP (lim T) nx gs m h (nx + gs.length)) ⟨rqK T keep k⟩:=by
 cases hl:ropsP (lim T) nx gs m h (nx + gs.length) with
 |none=>exact runs_none fun n=>by simp only [run,hl,bnd]
 |some x =>
  obtain ⟨o,y⟩:=x
  cases o with
  |none=>exact runs_step fun n=>by simp only [run,hl,bnd]
  |some v=>exact runs_end fun n=>by simp only [run,hl,bnd]
theorem rqK_n {keep:List Nat}:rqK T keep k (none,m,h,nx)=runs T k (keepOf m keep) h nx:=rfl
theorem rqK_s {keep:List Nat} {v:FV}:rqK T keep k (some v,m,h,nx)=some (.pan v,m,h,nx):=rfl
theorem p_nil:ropsP cal id [] m h nx=some (none,m,h,nx):=rfl
def pcK (cal:Call) (id:Nat) (d:Option Nat) (r:List G) (m:Tm) (y:FV × Heap × Nat):Option (Option FV × Tm × Heap × Nat) :=
 match y.1 with
 |.pan v=>some (some v,m,y.2.1,y.2.2)
 |v=>ropsP cal (id + 1) r (put m d v) y.2.1 y.2.2
theorem p_cl {f:Nat} {as:List X}:ropsP cal id (⟨d,none,.cl f as,re⟩::r) m h nx=@B (FV × Heap × Nat) (Option FV × Tm × Heap × Nat) (cal f (evs m as) h nx) ⟨pcK cal id d r m⟩:=by
 have e:ropsP cal id (⟨d,none,.cl f as,re⟩::r) m h nx=bnd (cal f (evs m as) h nx) fun y=>match y.1 with
     |.pan v=>some (some v,m,y.2.1,y.2.2)
     |v=>ropsP cal (id + 1) r (put m d v) y.2.1 y.2.2:=rfl
 rw [e]
 cases cal f (evs m as) h nx<;>rfl
theorem pcK_p {v:FV} {h':Heap} {nx':Nat}:pcK cal id d r m (.pan v,h',nx')=some (some v,m,h',nx'):=rfl
theorem pcK_v {v:FV} {h':Heap} {nx':Nat} (hv:isPan v=false):pcK cal id d r m (v,h',nx')=ropsP cal (id + 1) r (put m d v) h' nx':=by
 cases v<;>first | rfl | (simp [isPan] at hv)
def pnV:FV→Option FV
 |.ifc t v=>some (.ifc t v)
 |_=>none
theorem p_pn:ropsP cal id (⟨d,none,.pn x,re⟩::r) m h nx=@B FV (Option FV × Tm × Heap × Nat) (pnV (ev m x)) ⟨fun v=>some (some v,m,h,nx)⟩:=by
 have e:ropsP cal id (⟨d,none,.pn x,re⟩::r) m h nx=match ev m x with
     |.ifc t v=>some (some (.ifc t v),m,h,nx)
     |_=>none:=rfl
 rw [e]
 cases ev m x<;>rfl
theorem pnV_i {t:Nat} {v:FV}:pnV (.ifc t v)=some (.ifc t v):=rfl
theorem p_gd {op:O} {t:Nat} {c:Bool}:ropsP cal id (⟨d,some (t,c),op,re⟩::r) m h nx =
  @B Bool (Option FV × Tm × Heap × Nat) (wantB (gt m t) c) ⟨fun b=>@If (Option (Option FV × Tm × Heap × Nat)) b ⟨ropsP cal id (⟨d,none,op,re⟩::r) m h nx,ropsP cal (id + 1) r (put m d (.tup [])) h nx⟩⟩:=by
 rw [← wanted_B]
 simp only [ropsP]
 cases wanted m (some (t,c)) with
 |none=>rfl
 |some b=>cases b<;>rfl
end
theorem EV5:type_of% (And.intro @np_l <| And.intro @pan_i <| And.intro @pan_b <| And.intro @pan_s <| And.intro @pan_a <| And.intro @pan_t <| And.intro @pan_l <| And.intro @pan_e <| And.intro @pan_p <| And.intro @pan_r <| And.intro @pan_m <| And.intro @pan_f <| And.intro @pan_c <| And.intro @pan_n <| And.intro @pan_nf <| And.intro @pan_nm <| And.intro @pan_ni <| And.intro @pan_pan <|
 And.intro @r_sn <| And.intro @snV_l <| And.intro @r_xa <| And.intro @xaV_a <| And.intro @r_cs <| And.intro @csV_l <| And.intro @csV_r <| And.intro @r_ta <| And.intro @taV_i <| And.intro @taV_n <| And.intro @r_isn <| And.intro @isnV_i <| And.intro @isnV_n <| And.intro @r_ib <| And.intro @ibV_s <|
 And.intro @cw_y <| And.intro @w_rf <| And.intro @fnV_f <| And.intro @fz_fn <| And.intro @fz_ptr <| And.intro @w_rq <| And.intro @rqK_n <| And.intro @rqK_s <| And.intro @p_nil <| And.intro @p_cl <| And.intro @pcK_p <| And.intro @pcK_v <| And.intro @p_pn <| And.intro @pnV_i <| @p_gd):=And.intro @np_l <| And.intro @pan_i <| And.intro @pan_b <| And.intro @pan_s <| And.intro @pan_a <| And.intro @pan_t <| And.intro @pan_l <| And.intro @pan_e <| And.intro @pan_p <| And.intro @pan_r <| And.intro @pan_m <| And.intro @pan_f <| And.intro @pan_c <| And.intro @pan_n <| And.intro @pan_nf <| And.intro @pan_nm <| And.intro @pan_ni <| And.intro @pan_pan <|
 And.intro @r_sn <| And.intro @snV_l <| And.intro @r_xa <| And.intro @xaV_a <| And.intro @r_cs <| And.intro @csV_l <| And.intro @csV_r <| And.intro @r_ta <| And.intro @taV_i <| And.intro @taV_n <| And.intro @r_isn <| And.intro @isnV_i <| And.intro @isnV_n <| And.intro @r_ib <| And.intro @ibV_s <|
 And.intro @cw_y <| And.intro @w_rf <| And.intro @fnV_f <| And.intro @fz_fn <| And.intro @fz_ptr <| And.intro @w_rq <| And.intro @rqK_n <| And.intro @rqK_s <| And.intro @p_nil <| And.intro @p_cl <| And.intro @pcK_p <| And.intro @pcK_v <| And.intro @p_pn <| And.intro @pnV_i <| @p_gd
theorem EV6:type_of% (And.intro @lookup_m <| And.intro @lkM_t <| And.intro @lkM_f <| And.intro @lkR_s <| And.intro @lkR_n <| And.intro @muV_m <| And.intro @muM_m <| And.intro @mapLen_m <| And.intro @mapLenO_m <| And.intro @cells_m <| And.intro @ok_m <| And.intro @one_m <| And.intro @cells_nm <| And.intro @ok_nm <| And.intro @one_nm <| And.intro @resh_nm <| And.intro @resh_m <| And.intro @aaV_e <| And.intro @aaV_p <| And.intro @rfK_V <| And.intro @rfV_0 <| And.intro @rfV_1 <| And.intro @rfV_2 <| And.intro @w_beg <| And.intro @begV_l <| And.intro @leave_fin <| And.intro @leave_ret <| And.intro @leave_xt <| And.intro @lvV_l <| And.intro @w_xe <| And.intro @zip_n <| And.intro @zip_m <| @zip_c):=And.intro @lookup_m <| And.intro @lkM_t <| And.intro @lkM_f <| And.intro @lkR_s <| And.intro @lkR_n <| And.intro @muV_m <| And.intro @muM_m <| And.intro @mapLen_m <| And.intro @mapLenO_m <| And.intro @cells_m <| And.intro @ok_m <| And.intro @one_m <| And.intro @cells_nm <| And.intro @ok_nm <| And.intro @one_nm <| And.intro @resh_nm <| And.intro @resh_m <| And.intro @aaV_e <| And.intro @aaV_p <| And.intro @rfK_V <| And.intro @rfV_0 <| And.intro @rfV_1 <| And.intro @rfV_2 <| And.intro @w_beg <| And.intro @begV_l <| And.intro @leave_fin <| And.intro @leave_ret <| And.intro @leave_xt <| And.intro @lvV_l <| And.intro @w_xe <| And.intro @zip_n <| And.intro @zip_m <| @zip_c
end
end Go.FI
namespace Go.FI
theorem most_eq:most=1099511627776:=rfl
theorem deep_eq:deep=1152921504606846976:=rfl
theorem EV7:type_of% (And.intro @w_lp1 <| And.intro @w_lp0 <| And.intro @ca_0 <| And.intro @ca_s <| And.intro @Ck_pos <| And.intro @take_full <| And.intro @wrap64 <| And.intro @wrapu64 <| And.intro @wrapu8 <| And.intro @wrapi8 <| And.intro @most_eq <| And.intro @deep_eq <| And.intro @FV.bool.injEq <| @FV.int.injEq) :=
 And.intro @w_lp1 <| And.intro @w_lp0 <| And.intro @ca_0 <| And.intro @ca_s <| And.intro @Ck_pos <| And.intro @take_full <| And.intro @wrap64 <| And.intro @wrapu64 <| And.intro @wrapu8 <| And.intro @wrapi8 <| And.intro @most_eq <| And.intro @deep_eq <| And.intro @FV.bool.injEq <| @FV.int.injEq
theorem EV8:type_of% (And.intro @List.map_cons.{0,0} <| And.intro @List.map_nil.{0,0} <| And.intro @List.length_cons.{0} <| And.intro @List.length_nil.{0} <| And.intro @List.getElem?_cons_zero.{0} <| And.intro @List.getElem?_cons_succ.{0} <| And.intro @if_true.{1} <| And.intro @if_false.{1} <| And.intro @List.all_cons.{0} <| And.intro @List.all_nil.{0} <| And.intro @Bool.and_self <| And.intro @Bool.and_true <| And.intro @Bool.true_and <| And.intro @beq_self_eq_true.{0} <| And.intro @Bool.not_true <| And.intro @Bool.not_false <| And.intro @decide_true <| And.intro @decide_false <| And.intro @eq_self.{1} <| And.intro @and_self <| And.intro @true_and <| @and_true) :=
 And.intro @List.map_cons.{0,0} <| And.intro @List.map_nil.{0,0} <| And.intro @List.length_cons.{0} <| And.intro @List.length_nil.{0} <| And.intro @List.getElem?_cons_zero.{0} <| And.intro @List.getElem?_cons_succ.{0} <| And.intro @if_true.{1} <| And.intro @if_false.{1} <| And.intro @List.all_cons.{0} <| And.intro @List.all_nil.{0} <| And.intro @Bool.and_self <| And.intro @Bool.and_true <| And.intro @Bool.true_and <| And.intro @beq_self_eq_true.{0} <| And.intro @Bool.not_true <| And.intro @Bool.not_false <| And.intro @decide_true <| And.intro @decide_false <| And.intro @eq_self.{1} <| And.intro @and_self <| And.intro @true_and <| @and_true
theorem EV9:type_of% (And.intro @List.drop_zero.{0} <| And.intro @List.drop_succ_cons.{0} <| And.intro @List.take_succ_cons.{0} <| And.intro @List.take_zero.{0} <| And.intro @List.take_nil.{0} <| And.intro @List.drop_nil.{0} <| And.intro @List.cons_append.{0} <| And.intro @List.nil_append.{0} <| And.intro @List.append_nil.{0} <| And.intro @Int.toNat_natCast <| And.intro @List.length_map.{0,0} <| And.intro @Nat.le_refl <| And.intro @Nat.zero_add <| And.intro @Nat.sub_zero <| And.intro @Nat.add_zero <| And.intro @List.replicate_succ.{0} <| And.intro @List.replicate_zero.{0} <| And.intro @List.set_cons_zero.{0} <| And.intro @List.set_cons_succ.{0} <| @Option.some.injEq.{0}) :=
 And.intro @List.drop_zero.{0} <| And.intro @List.drop_succ_cons.{0} <| And.intro @List.take_succ_cons.{0} <| And.intro @List.take_zero.{0} <| And.intro @List.take_nil.{0} <| And.intro @List.drop_nil.{0} <| And.intro @List.cons_append.{0} <| And.intro @List.nil_append.{0} <| And.intro @List.append_nil.{0} <| And.intro @Int.toNat_natCast <| And.intro @List.length_map.{0,0} <| And.intro @Nat.le_refl <| And.intro @Nat.zero_add <| And.intro @Nat.sub_zero <| And.intro @Nat.add_zero <| And.intro @List.replicate_succ.{0} <| And.intro @List.replicate_zero.{0} <| And.intro @List.set_cons_zero.{0} <| And.intro @List.set_cons_succ.{0} <| @Option.some.injEq.{0}
theorem EVL:type_of% (And.intro @List.length_append.{0} <| And.intro @List.length_map.{0,0} <| And.intro @List.length_cons.{0} <| And.intro @List.length_nil.{0} <| And.intro @List.length_replicate.{0} <| And.intro @List.length_drop.{0} <| @List.length_take.{0}) :=
 And.intro @List.length_append.{0} <| And.intro @List.length_map.{0,0} <| And.intro @List.length_cons.{0} <| And.intro @List.length_nil.{0} <| And.intro @List.length_replicate.{0} <| And.intro @List.length_drop.{0} <| @List.length_take.{0}
theorem EVS:type_of% (And.intro EV1 <| And.intro EV2 <| And.intro EV3 <| And.intro EV4 <| And.intro EV5 <| And.intro EV6 <| And.intro EV7 <| And.intro EV8 <| And.intro EV9 G_eqs):=And.intro EV1 <| And.intro EV2 <| And.intro EV3 <| And.intro EV4 <| And.intro EV5 <| And.intro EV6 <| And.intro EV7 <| And.intro EV8 <| And.intro EV9 G_eqs
end Go.FI
namespace Go.FI
inductive Tm' where
 |mk (k w b:Int) (s:List UInt8) (lo:Int) (e:Bool) (l:List Tm')
abbrev Te:=Tm'
instance:Inhabited Tm':=⟨.mk 0 0 0 [] 0 true []⟩
namespace Tm'
def k:Te→Int | .mk k _ _ _ _ _ _=>k
def w:Te→Int | .mk _ w _ _ _ _ _=>w
def b:Te→Int | .mk _ _ b _ _ _ _=>b
def s:Te→List UInt8 | .mk _ _ _ s _ _ _=>s
def lo:Te→Int | .mk _ _ _ _ lo _ _=>lo
def e:Te→Bool | .mk _ _ _ _ _ e _=>e
def l:Te→List Te | .mk _ _ _ _ _ _ l=>l
end Tm'
mutual
def tV:Te→FV
 |.mk k w b s lo e l=>.agg [.int .u8 k,.int .i64 w,.int .u64 b,.str s,.int .i64 lo,.lst e (tVs l)]
def tVs:List Te→List FV
 |[]=>[]
 |t::l=>tV t::tVs l
end
mutual
def size:Te→Nat
 |.mk _ _ _ _ _ _ l=>1 + sizes l
def sizes:List Te→Nat
 |[]=>0
 |t::l=>size t + sizes l
end
mutual
def depth:Te→Nat
 |.mk _ _ _ _ _ _ l=>depths l + 1
def depths:List Te→Nat
 |[]=>0
 |t::l=>max (depth t) (depths l)
end
mutual
def nodesT:Te→List Te
 |.mk k w b s lo e l=>.mk k w b s lo e l::nodesL l
def nodesL:List Te→List Te
 |[]=>[]
 |t::l=>nodesT t ++ nodesL l
end
theorem nodes_eq (t:Te):nodesT t=t::nodesL t.l:=by cases t;rfl
theorem nodesL_cons (t:Te) (l:List Te):nodesL (t::l)=nodesT t ++ nodesL l:=rfl
theorem nodesL_mem {x y:Te}:∀ {l:List Te},x ∈ l→y ∈ nodesT x→y ∈ nodesL l:=by
 intro l
 induction l with
 |nil=>intro h;cases h
 |cons a l ih =>
  intro h hy
  rw [nodesL_cons,List.mem_append]
  rcases List.mem_cons.1 h with rfl | h
  ·exact .inl hy
  ·exact .inr (ih h hy)
theorem nodes_sub {t x y:Te} (hx:x ∈ t.l) (hy:y ∈ nodesT x):y ∈ nodesT t:=by
 rw [nodes_eq];exact List.mem_cons_of_mem _ (nodesL_mem hx hy)
mutual
def sameT:Te→Te→Bool
 |.mk k w b s lo _ l,.mk k' w' b' s' lo' _ l'=>decide (k=k') && decide (w=w') && decide (b=b') && (s == s') && decide (lo=lo') && sameL l l'
def sameL:List Te→List Te→Bool
 |[],[]=>true
 |a::l,b::m=>sameT a b && sameL l m
 |_,_=>false
end
def nodeT (x:Te):Prop:=(0 ≤ x.k∧x.k < 256)∧(-9223372036854775808 ≤ x.w∧x.w ≤ 9223372036854775807)∧(0 ≤ x.b∧x.b < 18446744073709551616)∧x.s.length ≤ 9223372036854775807∧(-9223372036854775808 ≤ x.lo∧x.lo ≤ 9223372036854775807)∧x.l.length ≤ 9223372036854775807
def TOk (t:Te):Prop:=∀ x ∈ nodesT t,nodeT x
theorem TOk.sub {t x:Te} (h:TOk t) (hx:x ∈ t.l):TOk x:=fun y hy=>h y (nodes_sub hx hy)
end Go.FI
namespace Go.FI
def Fr (b0:Nat) (h h':Heap) (nx nx':Nat):Prop:=nx ≤ nx'∧∀ i,b0 ≤ i→i < nx→hget h' i=hget h i
theorem Fr.refl (b0:Nat) (h:Heap) (nx:Nat):Fr b0 h h nx nx:=⟨Nat.le_refl _,fun _ _ _=>rfl⟩
theorem Fr.trans {b0:Nat} {h h' h'':Heap} {nx nx' nx'':Nat} (h1:Fr b0 h h' nx nx') (h2:Fr b0 h' h'' nx' nx''):Fr b0 h h'' nx nx'' :=
 ⟨Nat.le_trans h1.1 h2.1,fun i hi hl=>by have:=h1.1;rw [h2.2 i hi (by omega),h1.2 i hi hl]⟩
def ResR {α β:Type} (b0:Nat) (h:Heap) (nx:Nat) (P:α→Heap→Prop) (Q:β→Heap→Prop) (r:FV × Heap × Nat):α ⊕ β→Prop
 |.inl a=>r.1=.bool true∧P a r.2.1∧Fr b0 h r.2.1 nx r.2.2
 |.inr b=>r.1=.bool false∧Q b r.2.1∧Fr b0 h r.2.1 nx r.2.2
theorem Fr.ext {b0:Nat} {h h1 h':Heap} {nx nx1 nx':Nat} (h2:Fr b0 h1 h' nx1 nx') (hn:nx ≤ nx1) (he:∀ i,i < nx→hget h1 i=hget h i):Fr b0 h h' nx nx' :=
 ⟨Nat.le_trans hn h2.1,fun i hi hl=>by rw [h2.2 i hi (by omega),he i hl]⟩
theorem ResR.base {α β:Type} {b0:Nat} {h h1:Heap} {nx nx1:Nat} {P:α→Heap→Prop} {Q:β→Heap→Prop} {r:FV × Heap × Nat} {s:α ⊕ β} (hf:Fr b0 h h1 nx nx1) (hr:ResR b0 h1 nx1 P Q r s):ResR b0 h nx P Q r s:=by
 cases s with
 |inl a=>exact ⟨hr.1,hr.2.1,hf.trans hr.2.2⟩
 |inr b=>exact ⟨hr.1,hr.2.1,hf.trans hr.2.2⟩
theorem Fr.up {b0:Nat} {h h1:Heap} {nx nx1:Nat} (hn:nx ≤ nx1) (he:∀ i,i < nx→hget h1 i=hget h i):Fr b0 h h1 nx nx1:=⟨hn,fun i _ hl=>he i hl⟩
abbrev Env0:=List (List UInt8 × Int)
def Cons (L:Env0):Prop:=∀ s v w,(s,v) ∈ L→(s,w) ∈ L→v=w
theorem Cons.sub {L M:Env0} (h:Cons L) (hs:∀ p ∈ M,p ∈ L):Cons M:=fun s v w h1 h2=>h s v w (hs _ h1) (hs _ h2)
end Go.FI
namespace Go.FI
open Go.Sort
abbrev Bd:=List UInt8 × Int
def bS (p:Bd):FV:=.agg [.str p.1,.int .i64 p.2,.int .u64 0]
def rowB (d:Array Bd):Obj:=.row 3 (d.toList.map bS)
def RowR (h:Heap) (id:Nat) (d:Array Bd) (h':Heap):Prop:=hget h' id=some (rowB d)∧∀ i,i ≠ id→hget h' i=hget h i
theorem RowR.refl {h:Heap} {id:Nat} {d:Array Bd} (hr:hget h id=some (rowB d)):RowR h id d h:=⟨hr,fun _ _=>rfl⟩
theorem RowR.trans {h h1 h2:Heap} {id:Nat} {d d':Array Bd} (h1':RowR h id d h1) (h2':RowR h1 id d' h2):RowR h id d' h2:=⟨h2'.1,fun i hi=>(h2'.2 i hi).trans (h1'.2 i hi)⟩
theorem RowR.one {h:Heap} {id:Nat} {d:Array Bd} {o:Obj} (hr:hget h id=some o):RowR h id d (hset h id (rowB d)):=⟨hgs_eq hr,fun i hi=>hgs_ne (Ne.symm hi)⟩
def RowN (id:Nat) (d:Array Bd) (h:Heap) (nx:Nat) (h':Heap) (nx':Nat):Prop:=hget h' id=some (rowB d)∧nx ≤ nx'∧∀ i,i < nx→i ≠ id→hget h' i=hget h i
theorem RowR.n {h h':Heap} {id nx nx':Nat} {d:Array Bd} (hr:RowR h id d h') (hn:nx ≤ nx'):RowN id d h nx h' nx':=⟨hr.1,hn,fun i _ hi=>hr.2 i hi⟩
section
variable {lt:Bd→Bd→Bool} {hi F root:Nat} {d:Array Bd}
end
theorem shr_ex {T:Tab} {f:Nat} {d:Fn} {args:List FV} {h:Heap} {nx:Nat} {P:FV × Heap × Nat→Prop} (ht:tget T f=some (.fn d)) (hm:d.mode=.shr) (hn:args.length=d.np)
  (hh:@Ok Out (runs T [.code d.body] (params 0 args) h nx) ⟨fun x=>@Ok FV (finV d.res x) ⟨fun v=>P (v,x.2.2.1,x.2.2.2)⟩⟩) (hlt:f < RB:=by decide):∃ r,lim T f args h nx=some r∧P r:=by
 rw [lim_shr ht hm hn hlt]
 obtain ⟨x,h1,v,h2,h3⟩:=hh
 exact ⟨(v,x.2.2.1,x.2.2.2),by rw [h1,B_some,h2,B_some],h3⟩
def CntR (h:Heap) (q:Nat) (h':Heap):Prop:=(∃ s:Int,hget h' q=some (.row 1 [.int .i64 s]))∧∀ i,i ≠ q→hget h' i=hget h i
theorem CntR.trans {h h1 h2:Heap} {q:Nat} (a:CntR h q h1) (b:CntR h1 q h2):CntR h q h2:=⟨b.1,fun i hi=>(b.2 i hi).trans (a.2 i hi)⟩
theorem RowN.trans {id:Nat} {d d':Array Bd} {h h1 h2:Heap} {nx nx1 nx2:Nat} (a:RowN id d h nx h1 nx1) (b:RowN id d' h1 nx1 h2 nx2):RowN id d' h nx h2 nx2 :=
 ⟨b.1,Nat.le_trans a.2.1 b.2.1,fun i hi hne=>(b.2.2 i (Nat.lt_of_lt_of_le hi a.2.1) hne).trans (a.2.2 i hi hne)⟩
theorem RowN.up {id:Nat} {d:Array Bd} {h h1:Heap} {nx nx0 nx1 nx2:Nat} (a:RowN id d h nx h1 nx1) (h0:nx0 ≤ nx) (h2:nx1 ≤ nx2):RowN id d h nx0 h1 nx2 :=
 ⟨a.1,by have:=a.2.1;omega,fun i hi hne=>a.2.2 i (by omega) hne⟩
theorem RowN.refl {id:Nat} {d:Array Bd} {h:Heap} {nx nx':Nat} (hr:hget h id=some (rowB d)) (hn:nx ≤ nx'):RowN id d h nx h nx':=⟨hr,hn,fun _ _ _=>rfl⟩
end Go.FI
namespace Go.FI
open Go.RowKit Go.ChangeShapes
variable [Sys]
def isAgg (P:Program) (t:TypeId):Bool :=
 match P.underlying t with
 |some (.struct _) | some (.array _ _)=>true
 |_=>false
def mkE (P:Program) (e:TypeId) (cs:List FV):FV:=if isAgg P e=true then .agg cs else cs.headD .undef
def OfT (P:Program):Nat→TypeId→List FV→Prop
 |0,_,_=>False
 |n + 1,t,cs=>cs.length=P.cellsOf t∧(cs.all FV.one=true)∧match P.underlying t with
  |some .bool=>∃ b,cs=[.bool b]
  |some (.int k)=>∃ x,cs=[.int k x]∧k.min ≤ x∧x ≤ k.max
  |some .string=>∃ s,cs=[.str s]∧s.length ≤ maxLen
  |some (.slice e)=>∃ css:List (List FV),cs=[.lst false (css.map (mkE P e))]∧css.length ≤ maxLen∧∀ c ∈ css,OfT P n e c
  |some (.struct fs)=>∀ f ∈ fs.toList,OfT P n f.type ((cs.drop f.offset).take (P.cellsOf f.type))
  |some (.array m e)=>∀ i,i < m→OfT P n e ((cs.drop (i * P.cellsOf e)).take (P.cellsOf e))
  |_=>False
def tile (P:Program):Nat→List Field→Nat→Bool
 |off,[],n=>decide (off=n)
 |off,f::fs,n=>decide (f.offset=off) && tile P (off + P.cellsOf f.type) fs n
def closed1 (P:Program) (ts:List TypeId) (t:TypeId):Bool :=
 match P.underlying t with
 |some .bool | some (.int _) | some .string=>decide (P.cellsOf t=1)
 |some (.slice e)=>decide (P.cellsOf t=1) && ts.contains e && decide (0 < P.cellsOf e) && (isAgg P e || decide (P.cellsOf e=1))
 |some (.struct fs)=>(fs.toList.all fun f=>ts.contains f.type) && tile P 0 fs.toList (P.cellsOf t)
 |some (.array m e)=>ts.contains e && decide (P.cellsOf t=m * P.cellsOf e)
 |_=>false
def closed (P:Program) (ts:List TypeId):Bool:=ts.all (closed1 P ts)
theorem OfT.length {P:Program} {n:Nat} {t:TypeId} {cs:List FV} (h:OfT P n t cs):cs.length=P.cellsOf t:=by
 cases n with
 |zero=>cases h
 |succ n=>exact h.1
theorem OfT.all1 {P:Program} {n:Nat} {t:TypeId} {cs:List FV} (h:OfT P n t cs):cs.all FV.one=true:=by
 cases n with
 |zero=>cases h
 |succ n=>exact h.2.1
theorem cells_mkE {P:Program} {n:Nat} {e:TypeId} {cs:List FV} (h:OfT P n e cs) (he:isAgg P e=true ∨ P.cellsOf e=1):(mkE P e cs).cells=cs∧(mkE P e cs).ok=true:=by
 unfold mkE
 split
 ·exact ⟨rfl,h.all1⟩
 ·rename_i hn
  have h1:=h.length
  have h2:=h.all1
  rcases he with he | he
  ·exact absurd he hn
  ·rw [he] at h1
   match cs,h1 with
   |[x],_ =>
    simp only [List.all_cons,List.all_nil,Bool.and_true] at h2
    cases x<;>first | (exact ⟨rfl,rfl⟩) | (simp [FV.one] at h2)
theorem pick {α:Type} {p:Nat→α→Prop}:∀ (n:Nat),(∀ i,i < n→∃ v,p i v)→∃ l:List α,l.length=n∧∀ i v,l[i]? = some v→p i v:=by
 intro n
 induction n with
 |zero=>intro _;exact ⟨[],rfl,by simp⟩
 |succ n ih =>
  intro h
  obtain ⟨l,h1,h2⟩:=ih fun i hi=>h i (by omega)
  obtain ⟨v,hv⟩:=h n (by omega)
  refine ⟨l ++ [v],by simp [h1],fun i u hu=>?_⟩
  rw [List.getElem?_append] at hu
  split at hu
  ·exact h2 i u hu
  ·rename_i hi
   have:i=n:=by
    have:=(List.getElem?_eq_some_iff.1 hu).1
    simp at this;omega
   subst this
   simp [h1] at hu
   subst hu
   exact hv
theorem mapM_each {α β:Type} {f:α→Option β}:∀ {l:List α} {ys:List β},l.mapM f=some ys→∀ x ∈ l,∃ y,f x=some y:=by
 intro l
 induction l with
 |nil=>intro ys _ x hx;cases hx
 |cons a l ih =>
  intro ys h x hx
  rw [List.mapM_cons] at h
  cases ha:f a with
  |none=>rw [ha] at h;cases h
  |some y =>
   rw [ha] at h
   cases hl:l.mapM f with
   |none=>rw [hl] at h;cases h
   |some zs =>
    cases hx with
    |head=>exact ⟨y,ha⟩
    |tail _ hx=>exact ih hl x hx
theorem cell_spot {w:World} {a:Addr} {v:Value} (h:w.cell? a=some v):w.cell? ⟨a.block,a.off,none⟩=some v∧a.block < w.heap.size:=by
 unfold World.cell? at h ⊢
 split at h
 ·rename_i c _ _ hb
  split at h
  ·cases h
  ·simp only [hb]
   refine ⟨h,?_⟩
   exact (Array.getElem?_eq_some_iff.1 hb).1
 ·cases h
theorem add_off (a:Addr) (n:Nat):(a.add n).block=a.block∧(a.add n).off=a.off + n:=by
 unfold Addr.add
 split
 ·rename_i h;subst h;exact ⟨rfl,rfl⟩
 ·exact ⟨rfl,rfl⟩
theorem row_cells {g:Gh} {w:World} {base es b o:Nat} {a:Addr} (hb:a.block=b) (ho:a.off=o):∀ (css:List (List FV)) (i:Nat),
  (∀ j v,css[j]? = some v→∃ ci,w.cells? base (a.add ((i + j) * es)) es=some ci∧RL g w v ci) →
  ∃ ws,RL g w css.flatten ws∧∀ (j:Nat) v,ws[j]? = some v→w.cell? ⟨b,o + i * es + j,none⟩=some v:=by
 intro css
 induction css with
 |nil=>intro i _;exact ⟨[],.nil,by simp⟩
 |cons c css ih =>
  intro i h
  obtain ⟨ci,h1,h2⟩:=h 0 c rfl
  obtain ⟨ws,h3,h4⟩:=ih (i + 1) fun j v hv=>by
   obtain ⟨cj,k1,k2⟩:=h (j + 1) v (by simpa using hv)
   exact ⟨cj,by rw [show i + 1 + j=i + (j + 1) by omega];exact k1,k2⟩
  obtain ⟨_,h5,h6⟩:=World.cells?_some h1
  refine ⟨ci ++ ws,RL.append h2 h3,fun j v hv=>?_⟩
  rw [List.getElem?_append] at hv
  split at hv
  ·rename_i hj
   have h7:=h6 j (by omega)
   rw [hv] at h7
   have h8:=(cell_spot h7).1
   rw [(add_off _ _).1,(add_off _ _).2,(add_off _ _).1,(add_off _ _).2,hb,ho] at h8
   simpa using h8
  ·rename_i hj
   have:=h4 (j - ci.length) v hv
   rw [h5] at this
   have e:o + (i + 1) * es + (j - es)=o + i * es + j:=by
    rw [h5] at hj
    rw [Nat.add_mul]
    omega
   rw [e] at this
   exact this
theorem trod_strL {H:Type} {enc:TypeId × Value→H} {P:Program} {w:World} {base:Nat} {spare:Nat→Bool} {held:Bool} {n:Nat} {t:TypeId} {cs:List Value} {x:DataW H × List MemPlace} (hu:P.underlying t=some .string) (h:DataW.trod enc P w base spare held n t cs=some x) :
  ∃ s,cs=[.string s]∧s.size ≤ maxLen∧x=(.lit (.string s.data.toList),[]):=by
 cases n with
 |zero=>simp [DataW.trod] at h
 |succ n =>
  unfold DataW.trod at h
  rw [hu] at h
  rcases cs with _ | ⟨v,_ | ⟨v2,r⟩⟩
  ·simp at h
  ·cases v<;>simp only at h<;>try (first | (cases h;done) | (simp at h;done))
   split at h
   ·rename_i hs
    cases h
    exact ⟨_,rfl,hs,rfl⟩
   ·cases h
  ·cases v<;>simp at h
theorem trod_sliceL {H:Type} {enc:TypeId × Value→H} {P:Program} {w:World} {base:Nat} {spare:Nat→Bool} {held:Bool} {n:Nat} {t e:TypeId} {cs:List Value} {x:DataW H × List MemPlace} (hu:P.underlying t=some (.slice e)) (h:DataW.trod enc P w base spare held (n + 1) t cs=some x) :
  cs=[.slice none 0 0] ∨ ∃ (a:Addr) (len cap:Nat) (els:List (DataW H × List MemPlace)),cs=[.slice (some a) len cap]∧len ≤ cap∧cap ≤ maxLen ∧
   (List.range len).mapM (fun i=>(w.cells? base (a.add (i * P.cellsOf e)) (P.cellsOf e)).bind (DataW.trod enc P w base spare held n e))=some els:=by
 unfold DataW.trod at h
 rw [hu] at h
 rcases cs with _ | ⟨v,_ | ⟨v2,r⟩⟩
 ·simp at h
 ·cases v
  case slice o len cap =>
   cases o with
   |none=>cases len<;>cases cap<;>first | exact .inl rfl | (simp at h)
   |some a =>
    simp only at h
    split at h
    ·rename_i hx
     refine .inr ⟨a,len,cap,?_⟩
     cases hm:(List.range len).mapM (fun i=>(w.cells? base (a.add (i * P.cellsOf e)) (P.cellsOf e)).bind (DataW.trod enc P w base spare held n e)) with
     |none=>rw [hm] at h;cases h
     |some els=>exact ⟨els,rfl,hx.2.1,hx.2.2,rfl⟩
    ·cases h
  all_goals simp at h
 ·cases v<;>simp at h
theorem opens {H:Type} {enc:TypeId × Value→H} {P:Program} {w:World} {base:Nat} {spare:Nat→Bool} {held:Bool} {Z:Nat→Prop} (hZ:∀ b,b < w.heap.size→Z b) {ts:List TypeId} (hcl:closed P ts=true) :
  ∀ (n:Nat) (t:TypeId) (cs:List Value) (d:DataW H) (ps:List MemPlace),t ∈ ts→DataW.trod enc P w base spare held n t cs=some (d,ps) →
   ∃ vs,OfT P n t vs∧RL ⟨fun _=>none,Z⟩ w vs cs:=by
 intro n
 induction n with
 |zero=>intro t cs d ps _ h;simp [DataW.trod] at h
 |succ n ih =>
  intro t cs d ps ht h
  have hc:closed1 P ts t=true:=by
   unfold closed at hcl
   exact List.all_eq_true.1 hcl t ht
  unfold closed1 at hc
  have h0:=h
  unfold DataW.trod at h
  cases hu:P.underlying t with
  |none=>rw [hu] at hc;cases hc
  |some u =>
   rw [hu] at hc h
   cases u with
   |bool =>
    simp only [decide_eq_true_eq] at hc
    obtain ⟨b,rfl,_⟩:=DataW.trod_bool hu h0
    exact ⟨[.bool b],⟨by simpa using hc.symm,rfl,by rw [hu];exact ⟨b,rfl⟩⟩,.cons _ _ _ _ (.bool b) .nil⟩
   |int k =>
    simp only [decide_eq_true_eq] at hc
    obtain ⟨x,rfl,_,hw⟩:=DataW.trod_int hu h0
    have hb:k.min ≤ x∧x ≤ k.max:=by simpa [Lit.wf] using hw
    exact ⟨[.int k x],⟨by simpa using hc.symm,rfl,by rw [hu];exact ⟨x,rfl,hb⟩⟩,.cons _ _ _ _ (.int k x) .nil⟩
   |string =>
    simp only [decide_eq_true_eq] at hc
    obtain ⟨s,rfl,hs,_⟩:=trod_strL hu h0
    exact ⟨[.str s.data.toList],⟨by simpa using hc.symm,rfl,by rw [hu];exact ⟨_,rfl,by simpa using hs⟩⟩,.cons _ _ _ _ (.str s) .nil⟩
   |slice e =>
    simp only [Bool.and_eq_true,decide_eq_true_eq,Bool.or_eq_true,List.contains_iff_mem] at hc
    obtain ⟨⟨⟨h1,he⟩,hpos⟩,hag⟩:=hc
    rcases trod_sliceL hu h0 with rfl | ⟨a,len,cap,els,rfl,hx2,hx3,hm⟩
    ·exact ⟨[.lst false []],⟨by simpa using h1.symm,rfl,by rw [hu];exact ⟨[],rfl,by simp,by simp⟩⟩,.cons _ _ _ _ (.lst0 false none 0 (by simp)) .nil⟩
    ·have hel:∀ i,i < len→∃ v,OfT P n e v∧∃ ci,w.cells? base (a.add (i * P.cellsOf e)) (P.cellsOf e)=some ci∧RL ⟨fun _=>none,Z⟩ w v ci:=by
      intro i hi
      obtain ⟨y,hy⟩:=mapM_each hm i (by simpa using hi)
      cases hcs:w.cells? base (a.add (i * P.cellsOf e)) (P.cellsOf e) with
      |none=>rw [hcs] at hy;cases hy
      |some ci =>
       rw [hcs] at hy
       obtain ⟨v,k1,k2⟩:=ih e ci y.1 y.2 he hy
       exact ⟨v,k1,ci,rfl,k2⟩
     obtain ⟨css,hlen,hcss⟩:=pick len hel
     have hall:∀ c ∈ css,OfT P n e c:=fun c hc=>by
      obtain ⟨i,hi⟩:=List.getElem?_of_mem hc
      exact (hcss i c hi).1
     refine ⟨[.lst false (css.map (mkE P e))],⟨by simpa using h1.symm,rfl,by rw [hu];exact ⟨css,rfl,by omega,hall⟩⟩,.cons _ _ _ _ ?_ .nil⟩
     by_cases h0:css=[]
     ·subst h0
      simp at hlen
      subst hlen
      exact .lst0 false (some a) cap (by simp)
     ·obtain ⟨ws,hw1,hw2⟩:=row_cells (g:=⟨fun _=>none,Z⟩) (w:=w) (base:=base) (es:=P.cellsOf e) (a:=a) rfl rfl css 0 fun j v hv=>by
       obtain ⟨_,ci,k1,k2⟩:=hcss j v hv
       exact ⟨ci,by simpa using k1,k2⟩
      have hfl:(css.map (mkE P e)).flatMap FV.cells=css.flatten:=by
       clear hw1 hw2 hcss hel hm h0 hlen
       induction css with
       |nil=>rfl
       |cons c css ihc =>
        simp only [List.map_cons,List.flatMap_cons,List.flatten_cons]
        rw [(cells_mkE (hall c (by simp)) hag).1,ihc fun c hc=>hall c (by simp [hc])]
      have hsp:a=⟨a.block,a.off,none⟩∧a.block < w.heap.size:=by
       obtain ⟨c0,r0,rfl⟩:∃ c0 r0,css=c0::r0:=by
        cases css with
        |nil=>exact absurd rfl h0
        |cons c r=>exact ⟨c,r,rfl⟩
       obtain ⟨hh,ci,k1,k2⟩:=hcss 0 c0 rfl
       obtain ⟨_,k3,k4⟩:=World.cells?_some k1
       have k5:=k4 0 hpos
       simp only [Nat.zero_mul,Addr.add,if_true] at k5
       have k6:∃ x,ci[0]? = some x:=⟨ci[0],List.getElem?_eq_getElem (by omega)⟩
       obtain ⟨x,k6⟩:=k6
       rw [k6] at k5
       refine ⟨?_,(cell_spot k5).2⟩
       unfold World.cell? at k5
       split at k5
       ·split at k5
        ·cases k5
        ·rename_i hs
         obtain ⟨b,o,s⟩:=a
         cases s with
         |none=>rfl
         |some s=>simp at hs
       ·cases k5
      have hl:len=(css.map (mkE P e)).length:=by simp [hlen]
      rw [hl,hsp.1]
      refine .lst false (css.map (mkE P e)) a.block a.off (P.cellsOf e) cap ws (by simpa using h0) (by simp) (by rw [← hl];exact hx2) (hZ _ hsp.2) hpos ?_ (by rw [hfl];exact hw1) fun j v hv=>by simpa using hw2 j v hv
      intro x hx
      obtain ⟨c,hc,rfl⟩:=List.mem_map.1 hx
      have:=cells_mkE (hall c hc) hag
      exact ⟨by rw [this.1];exact (hall c hc).length,this.2⟩
   |struct fs =>
    simp only [Bool.and_eq_true,List.all_eq_true,List.contains_iff_mem] at hc
    obtain ⟨hf,htile⟩:=hc
    simp only at h
    split at h
    ·rename_i hlen
     cases hm:fs.toList.mapM (fun f=>DataW.trod enc P w base spare held n f.type ((cs.drop f.offset).take (P.cellsOf f.type))) with
     |none=>rw [hm] at h;cases h
     |some xs =>
      have hall:=mapM_each hm
      have key:∀ (fl:List Field) (off:Nat),(∀ f ∈ fl,f.type ∈ ts∧∃ y,DataW.trod enc P w base spare held n f.type ((cs.drop f.offset).take (P.cellsOf f.type))=some y)→tile P off fl (P.cellsOf t)=true→off ≤ cs.length →
        ∃ vs,RL ⟨fun _=>none,Z⟩ w vs (cs.drop off)∧vs.all FV.one=true∧∀ f ∈ fl,off ≤ f.offset∧OfT P n f.type ((vs.drop (f.offset - off)).take (P.cellsOf f.type)):=by
       intro fl
       induction fl with
       |nil =>
        intro off _ ht' hoff
        simp only [tile,decide_eq_true_eq] at ht'
        refine ⟨[],?_,rfl,by simp⟩
        rw [List.drop_eq_nil_of_le (by omega)]
        exact .nil
       |cons f fl ihf =>
        intro off hfl ht' hoff
        simp only [tile,Bool.and_eq_true,decide_eq_true_eq] at ht'
        obtain ⟨ho,ht'⟩:=ht'
        obtain ⟨hft,y,hy⟩:=hfl f (by simp)
        obtain ⟨v,hv1,hv2⟩:=ih _ _ y.1 y.2 hft hy
        have hvl:=hv1.length
        have hl2:=hv2.length
        rw [List.length_take,List.length_drop] at hl2
        obtain ⟨vs,k1,k2,k3⟩:=ihf (off + P.cellsOf f.type) (fun g hg=>hfl g (by simp [hg])) ht' (by omega)
        refine ⟨v ++ vs,?_,by rw [List.all_append,hv1.all1,k2];rfl,?_⟩
        ·have e:cs.drop off=(cs.drop f.offset).take (P.cellsOf f.type) ++ cs.drop (off + P.cellsOf f.type):=by
          rw [ho,← List.drop_drop]
          exact (List.take_append_drop _ _).symm
         rw [e]
         exact RL.append hv2 k1
        ·intro g hg
         cases hg with
         |head =>
          refine ⟨by omega,?_⟩
          rw [ho,Nat.sub_self,List.drop_zero,← hvl,List.take_left]
          exact hv1
         |tail _ hg =>
          obtain ⟨k4,k5⟩:=k3 g hg
          refine ⟨by omega,?_⟩
          rw [List.drop_append,List.drop_eq_nil_of_le (by omega),List.nil_append,show g.offset - off - v.length=g.offset - (off + P.cellsOf f.type) by omega]
          exact k5
      obtain ⟨vs,k1,k2,k3⟩:=key fs.toList 0 (fun f hf'=>⟨hf f hf',hall f hf'⟩) htile (Nat.zero_le _)
      refine ⟨vs,⟨?_,k2,by rw [hu];exact fun f hf'=>by simpa using (k3 f hf').2⟩,by simpa using k1⟩
      rw [k1.length];simpa using hlen
    ·cases h
   |array m e =>
    simp only [Bool.and_eq_true,decide_eq_true_eq,List.contains_iff_mem] at hc
    obtain ⟨he,hsz⟩:=hc
    simp only at h
    split at h
    ·rename_i hlen
     cases hm:(List.range m).mapM (fun i=>DataW.trod enc P w base spare held n e ((cs.drop (i * P.cellsOf e)).take (P.cellsOf e))) with
     |none=>rw [hm] at h;cases h
     |some xs =>
      have key:∀ (k:Nat),k ≤ m→∃ vs,RL ⟨fun _=>none,Z⟩ w vs (cs.take (k * P.cellsOf e))∧vs.all FV.one=true∧vs.length=k * P.cellsOf e∧∀ i,i < k→OfT P n e ((vs.drop (i * P.cellsOf e)).take (P.cellsOf e)):=by
       intro k
       induction k with
       |zero=>intro _;exact ⟨[],by rw [Nat.zero_mul,List.take_zero];exact .nil,rfl,by simp,by simp⟩
       |succ k ihk =>
        intro hk
        obtain ⟨vs,k1,k2,k3,k4⟩:=ihk (by omega)
        obtain ⟨y,hy⟩:=mapM_each hm k (List.mem_range.2 (by omega))
        obtain ⟨v,hv1,hv2⟩:=ih _ _ y.1 y.2 he hy
        have hvl:=hv1.length
        refine ⟨vs ++ v,?_,by rw [List.all_append,hv1.all1,k2];rfl,by rw [List.length_append,k3,hvl,Nat.add_mul,Nat.one_mul],fun i hi=>?_⟩
        ·rw [Nat.add_mul,Nat.one_mul,List.take_add]
         exact RL.append k1 hv2
        ·by_cases hik:i < k
         ·have hle:i * P.cellsOf e + P.cellsOf e ≤ vs.length:=by
           rw [k3,← Nat.succ_mul]
           exact Nat.mul_le_mul_right _ hik
          rw [List.drop_append_of_le_length (by omega),List.take_append_of_le_length (by rw [List.length_drop];omega)]
          exact k4 i hik
         ·have:i=k:=by omega
          subst this
          rw [← k3,List.drop_left,← hvl,List.take_length]
          exact hv1
      obtain ⟨vs,k1,k2,k3,k4⟩:=key m (Nat.le_refl _)
      refine ⟨vs,⟨by rw [k3,hsz],k2,by rw [hu];exact k4⟩,?_⟩
      rw [List.take_of_length_le (by omega)] at k1
      exact k1
    ·cases h
   |_=>cases hc
end Go.FI
namespace Go.FI
open Go.RowKit Go.ChangeShapes
variable [Sys]
def OfTs (P:Program):List TypeId→List FV→Prop
 |[],[]=>True
 |t::ts,v::vs=>(∃ n cs,OfT P n t cs∧v=mkE P t cs)∧OfTs P ts vs
 |_,_=>False
theorem R_mkE {g:Gh} {w:World} {P:Program} {b n:Nat} {t:TypeId} {vs:List FV} {v:Value} (hc:isAgg P t=true ∨ P.cellsOf t=1) (hok:Value.okWide P w .any b t v) (hv:OfT P n t vs) (hr:RL g w vs v.cells.toList):R g w (mkE P t vs) v:=by
 unfold mkE
 split
 ·rename_i ha
  have:∃ cs,v=.agg cs:=by
   unfold isAgg at ha
   unfold Value.okWide at hok
   split at ha
   ·rename_i h;rw [h] at hok;obtain ⟨cs,h,_⟩:=hok;exact ⟨cs,h⟩
   ·rename_i h;rw [h] at hok;obtain ⟨cs,h,_⟩:=hok;exact ⟨cs,h⟩
   ·cases ha
  obtain ⟨cs,rfl⟩:=this
  have:=R.agg vs cs.toList hr
  simpa using this
 ·rename_i ha
  have h1:vs.length=1:=by
   rcases hc with hc | hc
   ·exact absurd hc ha
   ·rw [hv.length,hc]
  match vs,h1 with
  |[x],_ =>
   have:v.cells=#[v]:=by
    cases v<;>try rfl
    exfalso
    unfold Value.okWide Cell.okWide Cell.ok at hok
    unfold isAgg at ha
    split at hok
    ·rename_i h;rw [h] at ha;simp at ha
    ·rename_i h;rw [h] at ha;simp at ha
    ·split at hok<;>simp_all
   rw [this] at hr
   cases hr with | cons _ _ _ _ hx _=>exact hx
theorem closed_one {P:Program} {ts:List TypeId} (hcl:closed P ts=true) {t:TypeId} (ht:t ∈ ts):isAgg P t=true ∨ P.cellsOf t=1:=by
 have hc:closed1 P ts t=true:=by
  unfold closed at hcl
  exact List.all_eq_true.1 hcl t ht
 unfold closed1 at hc
 unfold isAgg
 split at hc<;>rename_i h<;>simp_all
theorem open_all {H:Type} {enc:TypeId × Value→H} {P:Program} {w:World} {spare:Nat→Bool} {held:Bool} {ts:List TypeId} (hcl:closed P ts=true) :
  ∀ (params:List TypeId) (vs:List Value) (ds:List (DataW H)) (ps:List MemPlace),(∀ t ∈ params,t ∈ ts)→(∀ (j:Nat) t v,params[j]? = some t→vs[j]? = some v→∃ b,Value.okWide P w .any b t v) →
   DataW.TrodAll enc P w 0 spare held params vs ds ps→∃ fs,OfTs P params fs∧RL ⟨fun _=>none,(· < w.heap.size)⟩ w fs vs:=by
 intro params
 induction params with
 |nil =>
  intro vs ds ps _ _ h
  cases vs with
  |nil=>exact ⟨[],trivial,.nil⟩
  |cons v vs=>cases ds<;>cases h
 |cons t params ih =>
  intro vs ds ps hts hok h
  cases vs with
  |nil=>cases ds<;>cases h
  |cons v vs =>
   cases ds with
   |nil=>cases h
   |cons d ds =>
    obtain ⟨p,q,⟨n,h1⟩,h2,rfl⟩:=h
    obtain ⟨fs,h3,h4⟩:=ih vs ds q (fun t ht=>hts t (by simp [ht])) (fun j t v hj hv=>hok (j + 1) t v (by simpa using hj) (by simpa using hv)) h2
    obtain ⟨b,hb⟩:=hok 0 t v rfl rfl
    obtain ⟨cs,h5,h6⟩:=opens (Z:=(· < w.heap.size)) (fun b h=>h) hcl n t _ d p (hts t (by simp)) h1
    exact ⟨mkE P t cs::fs,⟨⟨n,cs,h5,rfl⟩,h3⟩,.cons _ _ _ _ (R_mkE (closed_one hcl (hts t (by simp))) hb h5 h6) h4⟩
theorem trodAll_below {H:Type} {enc:TypeId × Value→H} {P:Program} (hl:laidOutB P=true) {W W':World} (hb:Below W.heap.size W W') :
  ∀ (params:List TypeId) (vs:List Value) (ds:List (DataW H)) (ps:List MemPlace),(params.all fun t=>P.readableRec t && decide (t < P.types.size))=true→(∀ x ∈ ps,x.block < W.heap.size) →
   DataW.TrodAll enc P W 0 (fun _=>true) true params vs ds ps→DataW.TrodAll enc P W' 0 (fun b=>decide (b < W.heap.size)) true params vs ds ps:=by
 intro params
 induction params with
 |nil =>
  intro vs ds ps _ _ h
  cases vs<;>cases ds<;>exact h
 |cons t params ih =>
  intro vs ds ps hp hlt h
  simp only [List.all_cons,Bool.and_eq_true,decide_eq_true_eq] at hp
  cases vs with
  |nil=>cases ds<;>cases h
  |cons v vs =>
   cases ds with
   |nil=>cases h
   |cons d ds =>
    obtain ⟨p,q,h1,h2,rfl⟩:=h
    exact ⟨p,q,Below.trod hl hp.1.1 hp.1.2 h1 hb (fun x hx=>hlt x (by simp [hx])),ih vs ds q hp.2 (fun x hx=>hlt x (by simp [hx])) h2,rfl⟩
theorem contract_true {H:Type} {enc:TypeId × Value→H} {P:Program} {W:World} {base:Nat} {args:Array Value} {ds gs:List (DataW H)} {before:List MemPlace} {f:Func} {k:Nat} {s:ChangeSpec} {ts:List TypeId} {tb:TypeId}
  (hcl:closed P ts=true) (hts:(f.params.toList.all ts.contains)=true) (hlaid:laidOutB P=true) (hrd:(f.params.toList.all fun t=>P.readableRec t && decide (t < P.types.size))=true) (hr:f.resultTypes=#[tb]) (hb:P.underlying tb=some .bool) (hvars:s.vars=[])
  (hfn:∀ ds:List (DataW H),ds.length=f.params.size→(s.fn H ds).results=[.lit (.bool true)]∧(s.fn H ds).args=ds∧(s.fn H ds).vars=[])
  (hiso:∀ fs,OfTs P f.params.toList fs→IsoCall P k fs (.bool true))
  (hgl:GlOk ⟨fun _=>none,(· < W.heap.size)⟩ W) (hval:∀ (j:Nat) t v,f.params[j]? = some t→args[j]? = some v→Value.okWide P W .any base t v)
  (hW:DataW.Whole enc P f.params.toList s.vars false W args.toList ds gs before) :
  Calls P k args W fun e W'=>∃ v,e=.returned v∧s.post enc P f false true false false W args v W':=by
 have hlt:∀ x ∈ before,x.block < W.heap.size:=fun x hx=>by simpa using hW.lt x hx
 obtain ⟨p,q,hA,hV,rfl,hfz,hnd⟩:=hW
 have hVn:gs=[]∧q=[]:=by
  rw [hvars] at hV
  cases gs with
  |nil=>exact ⟨rfl,hV⟩
  |cons=>cases hV
 obtain ⟨rfl,rfl⟩:=hVn
 obtain ⟨fs,h1,h2⟩:=open_all hcl f.params.toList args.toList ds p (fun t ht=>by simpa using List.all_eq_true.1 hts t ht)
  (fun j t v hj hv=>⟨base,hval j t v (by simpa using hj) (by simpa using hv)⟩) hA
 have hc:=hiso fs h1 _ W args.toList (fun b h=>h) hgl h2
 have hlen:ds.length=f.params.size:=by
  have:∀ (params:List TypeId) (vs:List Value) (ds:List (DataW H)) (ps:List MemPlace),DataW.TrodAll enc P W 0 (fun _=>true) true params vs ds ps→ds.length=params.length:=by
   intro params
   induction params with
   |nil=>intro vs ds ps h;cases vs<;>cases ds<;>first | rfl | cases h
   |cons t params ih =>
    intro vs ds ps h
    cases vs with
    |nil=>cases ds<;>cases h
    |cons v vs =>
     cases ds with
     |nil=>cases h
     |cons d ds =>
      obtain ⟨_,_,_,h2,_⟩:=h
      simp [ih vs ds _ h2]
  simpa using this _ _ _ _ hA
 obtain ⟨hf1,hf2,hf3⟩:=hfn ds hlen
 have hargs:args.toList.toArray=args:=by simp
 rw [hargs] at hc
 refine hc.mono fun e W' ⟨x,he,hbelow,hx⟩=>?_
 subst he
 cases hx with
 |bool =>
 refine ⟨.bool true,rfl,ds,[],p ++ [],[],p,[],⟨p,[],hA,hV,rfl,hfz,hnd⟩,?_,?_,?_,?_,fun h=>by cases h⟩
 ·rw [List.append_nil,hf1,hr]
  exact trodAll_cons_mk (shut_bool hb _) trodAll_mk0
 ·rw [List.append_nil,hf2]
  exact trodAll_below hlaid hbelow _ _ _ _ hrd (fun x hx=>hlt x (by simp [hx])) hA
 ·rw [List.append_nil,hf3,hvars]
  rfl
 ·exact hbelow.frame _
end Go.FI
namespace Go.FI
variable [Sys]
def sliceOf (P:Program) (t:TypeId):Option TypeId:=match P.underlying t with | some (.slice e)=>some e | _=>none
def kindOf (P:Program) (t:TypeId):Option IntKind:=match P.underlying t with | some (.int k)=>some k | _=>none
def strT (P:Program) (t:TypeId):Bool:=match P.underlying t with | some .string=>true | _=>false
def boolT (P:Program) (t:TypeId):Bool:=match P.underlying t with | some .bool=>true | _=>false
def fldAt (P:Program) (t:TypeId) (i:Nat):Option (TypeId × Nat × Nat):=match P.underlying t with | some (.struct fs)=>fs.toList[i]?.map fun f=>(f.type,f.offset,P.cellsOf f.type) | _=>none
section
variable {P:Program} {n:Nat} {t:TypeId} {cs:List FV}
theorem OfT.slice {e:TypeId} (h:OfT P n t cs) (he:sliceOf P t=some e):∃ (m:Nat) (css:List (List FV)),cs=[.lst false (css.map (mkE P e))]∧css.length ≤ maxLen∧∀ c ∈ css,OfT P m e c:=by
 cases n with
 |zero=>cases h
 |succ n =>
  obtain ⟨_,_,h⟩:=h
  unfold sliceOf at he
  split at he
  ·rename_i hu
   cases he
   rw [hu] at h
   obtain ⟨css,h1,h2,h3⟩:=h
   exact ⟨n,css,h1,h2,h3⟩
  ·cases he
theorem OfT.int {k:IntKind} (h:OfT P n t cs) (hk:kindOf P t=some k):∃ x,cs=[.int k x]∧k.min ≤ x∧x ≤ k.max:=by
 cases n with
 |zero=>cases h
 |succ n =>
  obtain ⟨_,_,h⟩:=h
  unfold kindOf at hk
  split at hk
  ·rename_i hu
   cases hk
   rw [hu] at h
   exact h
  ·cases hk
theorem OfT.str (h:OfT P n t cs) (hk:strT P t=true):∃ s,cs=[.str s]∧s.length ≤ maxLen:=by
 cases n with
 |zero=>cases h
 |succ n =>
  obtain ⟨_,_,h⟩:=h
  unfold strT at hk
  split at hk
  ·rename_i hu
   rw [hu] at h
   exact h
  ·cases hk
theorem OfT.bool (h:OfT P n t cs) (hk:boolT P t=true):∃ b,cs=[.bool b]:=by
 cases n with
 |zero=>cases h
 |succ n =>
  obtain ⟨_,_,h⟩:=h
  unfold boolT at hk
  split at hk
  ·rename_i hu
   rw [hu] at h
   exact h
  ·cases hk
theorem OfT.field (h:OfT P n t cs) (i:Nat) {u off k:Nat} (hf:fldAt P t i=some (u,off,k)):∃ m,OfT P m u ((cs.drop off).take k):=by
 cases n with
 |zero=>cases h
 |succ n =>
  obtain ⟨_,_,h⟩:=h
  unfold fldAt at hf
  split at hf
  ·rename_i fs hu
   rw [hu] at h
   cases hx:fs.toList[i]? with
   |none=>rw [hx] at hf;cases hf
   |some f =>
    rw [hx] at hf
    cases hf
    exact ⟨n,h f (List.mem_of_getElem? hx)⟩
  ·cases hf
theorem OfT.len (h:OfT P n t cs) {k:Nat} (hk:P.cellsOf t=k):cs.length=k:=h.length.trans hk
theorem list_view {α β:Type} {mk:β→FV} {enc:α→FV} {good:α→Prop}:∀ {css:List β},(∀ c ∈ css,∃ a,mk c=enc a∧good a)→∃ l:List α,css.map mk=l.map enc∧l.length=css.length∧∀ a ∈ l,good a:=by
 intro css
 induction css with
 |nil=>intro _;exact ⟨[],rfl,rfl,by simp⟩
 |cons c css ih =>
  intro h
  obtain ⟨a,h1,h2⟩:=h c (by simp)
  obtain ⟨l,h3,h4,h5⟩:=ih fun c hc=>h c (by simp [hc])
  exact ⟨a::l,by simp [h1,h3],by simp [h4],by simpa using ⟨h2,h5⟩⟩
theorem mkE_agg (ha:isAgg P t=true):mkE P t cs=.agg cs:=if_pos ha
theorem mkE_one (ha:isAgg P t=false) {v:FV}:mkE P t [v]=v:=by
 unfold mkE
 rw [ha]
 rfl
theorem OfT.ints {e:TypeId} {k:IntKind} (h:OfT P n t cs) (he:sliceOf P t=some e) (hk:kindOf P e=some k) (ha:isAgg P e=false):∃ l:List Int,cs=[.lst false (l.map (.int k))]∧l.length ≤ maxLen∧∀ x ∈ l,k.min ≤ x∧x ≤ k.max:=by
 obtain ⟨m,css,rfl,h2,h3⟩:=h.slice he
 obtain ⟨l,h4,h5,h6⟩:=list_view (css:=css) (mk:=mkE P e) (enc:=.int k) (good:=fun x=>k.min ≤ x∧x ≤ k.max) fun c hc=>by
  obtain ⟨x,rfl,h7⟩:=(h3 c hc).int hk
  exact ⟨x,mkE_one ha,h7⟩
 exact ⟨l,by rw [h4],by omega,h6⟩
theorem OfT.bools {e:TypeId} (h:OfT P n t cs) (he:sliceOf P t=some e) (hk:boolT P e=true) (ha:isAgg P e=false):∃ l:List Bool,cs=[.lst false (l.map .bool)]∧l.length ≤ maxLen:=by
 obtain ⟨m,css,rfl,h2,h3⟩:=h.slice he
 obtain ⟨l,h4,h5,_⟩:=list_view (css:=css) (mk:=mkE P e) (enc:=.bool) (good:=fun _=>True) fun c hc=>by
  obtain ⟨x,rfl⟩:=(h3 c hc).bool hk
  exact ⟨x,mkE_one ha,trivial⟩
 exact ⟨l,by rw [h4],by omega⟩
theorem OfT.pairs {e u v:TypeId} {α β:Type} {f:α→FV} {g:β→FV} {ga:α→Prop} {gb:β→Prop} (h:OfT P n t cs) (he:sliceOf P t=some e) (ha:isAgg P e=true) (hl:P.cellsOf e=2) (h0:fldAt P e 0=some (u,0,1)) (h1:fldAt P e 1=some (v,1,1))
  (hu:∀ m c,OfT P m u c→∃ a,c=[f a]∧ga a) (hv:∀ m c,OfT P m v c→∃ b,c=[g b]∧gb b) :
  ∃ l:List (α × β),cs=[.lst false (l.map fun p=>.agg [f p.1,g p.2])]∧l.length ≤ maxLen∧∀ p ∈ l,ga p.1∧gb p.2:=by
 obtain ⟨m,css,rfl,h2,h3⟩:=h.slice he
 obtain ⟨l,h4,h5,h6⟩:=list_view (css:=css) (mk:=mkE P e) (enc:=fun p:α × β=>.agg [f p.1,g p.2]) (good:=fun p=>ga p.1∧gb p.2) fun c hc=>by
  have hc':=h3 c hc
  have hlen:=hc'.len hl
  obtain ⟨_,h7⟩:=hc'.field 0 h0
  obtain ⟨_,h8⟩:=hc'.field 1 h1
  match c,hlen with
  |[x,y],_ =>
   obtain ⟨a,e1,g1⟩:=hu _ _ h7
   obtain ⟨b,e2,g2⟩:=hv _ _ h8
   simp at e1 e2
   exact ⟨(a,b),by rw [mkE_agg ha,e1,e2],g1,g2⟩
 exact ⟨l,by rw [h4],by omega,h6⟩
end
end Go.FI
namespace Go.FI
open Go.RowKit Go.ChangeShapes
mutual
def flatD {H:Type}:DataW H→Option (List FV)
 |.lit (.int k n)=>some [.int k n]
 |.lit (.string s)=>some [.str s]
 |.lit (.bool b)=>some [.bool b]
 |.agg ds=>flatDs ds
 |_=>none
def flatDs {H:Type}:List (DataW H)→Option (List FV)
 |[]=>some []
 |d::r=>bnd (flatD d) fun a=>bnd (flatDs r) fun b=>some (a ++ b)
end
def closedF (P:Program) (ts:List TypeId):Bool:=ts.all fun t=>match P.underlying t with
 |some .bool=>true
 |some (.int _)=>true
 |some .string=>true
 |some (.struct fs)=>(fs.toList.all fun f=>ts.contains f.type) && tile P 0 fs.toList (P.cellsOf t)
 |some (.array m e)=>ts.contains e && decide (P.cellsOf t=m * P.cellsOf e)
 |_=>false
variable [Sys]
theorem flat_opens {H:Type} {enc:TypeId × Value→H} {P:Program} {w:World} {base:Nat} {spare:Nat→Bool} {held:Bool} {g:Gh} {ts:List TypeId} (hcl:closedF P ts=true) :
  ∀ (n:Nat) (t:TypeId) (cs:List Value) (d:DataW H) (ps:List MemPlace),t ∈ ts→DataW.trod enc P w base spare held n t cs=some (d,ps)→∀ vs,flatD d=some vs→RL g w vs cs:=by
 intro n
 induction n with
 |zero=>intro t cs d ps _ h;simp [DataW.trod] at h
 |succ n ih =>
  intro t cs d ps ht h vs hv
  have hc:=List.all_eq_true.1 hcl t ht
  have h0:=h
  cases hu:P.underlying t with
  |none=>rw [hu] at hc;cases hc
  |some u =>
   rw [hu] at hc
   cases u with
   |bool =>
    obtain ⟨b,rfl,hd⟩:=DataW.trod_bool hu h0
    cases hd
    simp only [flatD,Option.some.injEq] at hv;subst hv
    exact .cons _ _ _ _ (.bool b) .nil
   |int k =>
    obtain ⟨x,rfl,hd,hw⟩:=DataW.trod_int hu h0
    cases hd
    simp only [flatD,Option.some.injEq] at hv;subst hv
    exact .cons _ _ _ _ (.int k x) .nil
   |string =>
    obtain ⟨s,rfl,hs,hd⟩:=trod_strL hu h0
    cases hd
    simp only [flatD,Option.some.injEq] at hv;subst hv
    exact .cons _ _ _ _ (.str s) .nil
   |struct fs =>
    simp only [Bool.and_eq_true,List.all_eq_true,List.contains_iff_mem] at hc
    obtain ⟨hf,htile⟩:=hc
    unfold DataW.trod at h
    rw [hu] at h
    simp only at h
    split at h
    ·rename_i hlen
     cases hm:fs.toList.mapM (fun f=>DataW.trod enc P w base spare held n f.type ((cs.drop f.offset).take (P.cellsOf f.type))) with
     |none=>rw [hm] at h;cases h
     |some xs =>
      rw [hm] at h
      have hd:d=.agg (xs.map (·.1)):=by
       cases h;rfl
      subst hd
      simp only [flatD] at hv
      have key:∀ (fl:List Field) (off:Nat) (xs:List (DataW H × List MemPlace)) (vs:List FV),(∀ f ∈ fl,f.type ∈ ts)→fl.mapM (fun f=>DataW.trod enc P w base spare held n f.type ((cs.drop f.offset).take (P.cellsOf f.type)))=some xs →
        tile P off fl (P.cellsOf t)=true→off ≤ cs.length→flatDs (xs.map (·.1))=some vs→RL g w vs (cs.drop off):=by
       intro fl
       induction fl with
       |nil =>
        intro off xs vs _ hm ht' hoff hv
        simp at hm;subst hm
        simp only [List.map_nil,flatDs,Option.some.injEq] at hv;subst hv
        simp only [tile,decide_eq_true_eq] at ht'
        rw [List.drop_eq_nil_of_le (by omega)]
        exact .nil
       |cons f fl ihf =>
        intro off xs vs hfl hm ht' hoff hv
        simp only [tile,Bool.and_eq_true,decide_eq_true_eq] at ht'
        obtain ⟨ho,ht'⟩:=ht'
        rw [List.mapM_cons] at hm
        cases hy:DataW.trod enc P w base spare held n f.type ((cs.drop f.offset).take (P.cellsOf f.type)) with
        |none=>rw [hy] at hm;cases hm
        |some y =>
         rw [hy] at hm
         cases hys:fl.mapM (fun f=>DataW.trod enc P w base spare held n f.type ((cs.drop f.offset).take (P.cellsOf f.type))) with
         |none=>rw [hys] at hm;cases hm
         |some ys =>
          rw [hys] at hm
          cases hm
          simp only [List.map_cons,flatDs] at hv
          obtain ⟨v1,e1,hv⟩:=bnd_some hv
          obtain ⟨v2,e2,hv⟩:=bnd_some hv
          simp only [Option.some.injEq] at hv;subst hv
          have r1:=ih _ _ y.1 y.2 (hfl f (by simp)) hy v1 e1
          have hl2:P.cellsOf f.type ≤ cs.length - off:=by
           have:∀ (fl:List Field) (o:Nat),tile P o fl (P.cellsOf t)=true→o ≤ P.cellsOf t:=by
            intro fl
            induction fl with
            |nil=>intro o h;simp only [tile,decide_eq_true_eq] at h;omega
            |cons f fl ih=>intro o h;simp only [tile,Bool.and_eq_true,decide_eq_true_eq] at h;have:=ih _ h.2;omega
           have:=this _ _ ht'
           have hlen':cs.length=P.cellsOf t:=by simpa using hlen
           omega
          have r2:=ihf (off + P.cellsOf f.type) ys v2 (fun q hq=>hfl q (by simp [hq])) hys ht' (by omega) e2
          have e:cs.drop off=(cs.drop f.offset).take (P.cellsOf f.type) ++ cs.drop (off + P.cellsOf f.type):=by
           rw [ho,← List.drop_drop]
           exact (List.take_append_drop _ _).symm
          rw [e]
          exact RL.append r1 r2
      exact by simpa using key fs.toList 0 xs vs hf hm htile (Nat.zero_le _) hv
    ·cases h
   |array m e =>
    simp only [Bool.and_eq_true,decide_eq_true_eq,List.contains_iff_mem] at hc
    obtain ⟨he,hsz⟩:=hc
    obtain ⟨xs,m',hm',hx,hlen,hn,hel⟩:=DataW.trod_array hu h0
    cases hm'
    have hd:d=.agg (xs.map (·.1)):=by cases hx;rfl
    subst hd
    simp only [flatD] at hv
    have key:∀ (k:Nat) (vs:List FV),k ≤ m→flatDs ((xs.drop (m - k)).map (·.1))=some vs→RL g w vs (cs.drop ((m - k) * P.cellsOf e)):=by
     intro k
     induction k with
     |zero =>
      intro vs _ hv
      rw [Nat.sub_zero,List.drop_eq_nil_of_le (by omega)] at hv
      simp only [List.map_nil,flatDs,Option.some.injEq] at hv;subst hv
      rw [Nat.sub_zero,List.drop_eq_nil_of_le (by omega)]
      exact .nil
     |succ k ihk =>
      intro vs hk hv
      have hj:m - (k + 1) < xs.length:=by omega
      have hel':=hel (m - (k + 1)) (by omega)
      rw [List.getElem?_eq_getElem hj] at hel'
      rw [List.drop_eq_getElem_cons hj,List.map_cons] at hv
      simp only [flatDs] at hv
      obtain ⟨v1,e1,hv⟩:=bnd_some hv
      obtain ⟨v2,e2,hv⟩:=bnd_some hv
      simp only [Option.some.injEq] at hv;subst hv
      have r1:=ih _ _ _ _ he hel' v1 e1
      rw [show m - (k + 1) + 1=m - k by omega] at e2
      have r2:=ihk v2 (by omega) e2
      have e:cs.drop ((m - (k + 1)) * P.cellsOf e)=(cs.drop ((m - (k + 1)) * P.cellsOf e)).take (P.cellsOf e) ++ cs.drop ((m - k) * P.cellsOf e):=by
       rw [show m - k=(m - (k + 1)) + 1 by omega,Nat.add_mul,Nat.one_mul,← List.drop_drop]
       exact (List.take_append_drop _ _).symm
      rw [e]
      exact RL.append r1 r2
    have:=key m vs (Nat.le_refl _) (by simpa using hv)
    simpa using this
   |_=>cases hc
end Go.FI
namespace Go.FI.BC
open Go.FI
def okAt (s:List UInt8) (i:Nat):Prop:=(97 ≤ (s.getD i 0).toNat∧(s.getD i 0).toNat ≤ 122) ∨ (65 ≤ (s.getD i 0).toNat∧(s.getD i 0).toNat ≤ 90) ∨ (i ≠ 0∧((s.getD i 0).toNat=95 ∨ (48 ≤ (s.getD i 0).toNat∧(s.getD i 0).toNat ≤ 57)))
def nameS (s:List UInt8):Prop:=1 ≤ s.length∧s.length ≤ 24∧∀ i,i < s.length→okAt s i
def inV (p:List UInt8 × Int):FV:=.agg [.str p.1,.int .i64 p.2]
def gateV (p:Int × Int):FV:=.agg [.int .i64 p.1,.int .i64 p.2]
def intV (n:Int):FV:=.int .i64 n
def circV (e1 e2 e3:Bool) (ins:List (List UInt8 × Int)) (gs:List (Int × Int)) (outs:List Int):FV:=.agg [.lst e1 (ins.map inV),.lst e2 (gs.map gateV),.lst e3 (outs.map intV)]
section
variable (ins:List (List UInt8 × Int)) (gs:List (Int × Int)) (outs:List Int) (b:Nat)
theorem pu1:pures (ins.map inV)=true:=pures_map (fun _=>rfl) _
theorem pu2:pures (gs.map gateV)=true:=pures_map (fun _=>rfl) _
theorem pu3:pures (outs.map intV)=true:=pures_map (fun _=>rfl) _
theorem lo1:lows b (ins.map inV)=true:=lows_map (fun _=>rfl) _
theorem lo2:lows b (gs.map gateV)=true:=lows_map (fun _=>rfl) _
theorem lo3:lows b (outs.map intV)=true:=lows_map (fun _=>rfl) _
theorem al1:(ins.map inV).all FV.ok=true:=all_map (fun _=>rfl) _
theorem al2:(gs.map gateV).all FV.ok=true:=all_map (fun _=>rfl) _
theorem al3:(outs.map intV).all FV.ok=true:=all_map (fun _=>rfl) _
theorem cl1:((ins.map inV).all fun v=>v.cells.length == 2)=true:=all_map (fun _=>rfl) _
theorem cl2:((gs.map gateV).all fun v=>v.cells.length == 2)=true:=all_map (fun _=>rfl) _
theorem cl3:((outs.map intV).all fun v=>v.cells.length == 1)=true:=all_map (fun _=>rfl) _
end
theorem gd1 {ins:List (List UInt8 × Int)} {i:Nat} {d:FV} (h:i < ins.length):(ins.map inV).getD i d=.agg [.str (ins.getD i ([],0)).1,.int .i64 (ins.getD i ([],0)).2]:=getD_map _ h
theorem gd2 {gs:List (Int × Int)} {i:Nat} {d:FV} (h:i < gs.length):(gs.map gateV).getD i d=.agg [.int .i64 (gs.getD i (0,0)).1,.int .i64 (gs.getD i (0,0)).2]:=getD_map _ h
theorem gd3 {outs:List Int} {i:Nat} {d:FV} (h:i < outs.length):(outs.map intV).getD i d=.int .i64 (outs.getD i 0):=getD_map _ h
def LAWS:=And.intro pu1 <| And.intro pu2 <| And.intro pu3 <| And.intro lo1 <| And.intro lo2 <| And.intro lo3 <| And.intro al1 <| And.intro al2 <| And.intro al3 <| And.intro cl1 <| And.intro cl2 <| And.intro cl3 <| And.intro @gd1 <| And.intro @gd2 @gd3
theorem pure_circ {e1 e2 e3 ins gs outs}:pure_ (circV e1 e2 e3 ins gs outs)=true:=by
 simp [circV,pure_,pures,pu1,pu2,pu3]
def Small (ins:List (List UInt8 × Int)) (gs:List (Int × Int)) (outs:List Int):Prop:=ins.length ≤ 600∧gs.length ≤ 100100∧outs.length ≤ 100
def strip (s:List UInt8):List UInt8:=if 2 ≤ s.length∧s.take 2=[114,46] then s.drop 2 else s
def befS (p q:List UInt8 × Int):Bool:=Op.bytesLess p.1 q.1 || (p.1 == q.1 && decide (p.2 < q.2))
def litS (l:Int):Int:=if l % 2=1 then -(l / 2 + 1) else l / 2 + 1
abbrev In:=List (List UInt8 × Int)
abbrev Ga:=List (Int × Int)
def goodIn (ins:In) (i:Nat):Prop:=nameS (strip (ins.getD i ([],0)).1)∧0 ≤ (ins.getD i ([],0)).2∧(ins.getD i ([],0)).2 ≤ 63∧(i ≠ 0→befS (ins.getD (i - 1) ([],0)) (ins.getD i ([],0))=true)
def goodG (n:Nat) (gs:Ga) (i:Nat):Prop:=0 ≤ (gs.getD i (0,0)).1∧(gs.getD i (0,0)).1 < 2 * (1 + n + i)∧0 ≤ (gs.getD i (0,0)).2∧(gs.getD i (0,0)).2 < 2 * (1 + n + i)
def goodO (n:Nat) (outs:List Int) (i:Nat):Prop:=0 ≤ outs.getD i 0∧outs.getD i 0 < 2 * (1 + n)
def goodC (ins:In) (gs:Ga) (outs:List Int):Prop:=(∀ i,i < ins.length→goodIn ins i)∧(∀ i,i < gs.length→goodG ins.length gs i)∧(∀ i,i < outs.length→goodO (ins.length + gs.length) outs i)
def Fits (ins:In) (gs:Ga) (outs:List Int):Prop:=ins.length ≤ 512∧gs.length ≤ 100000∧outs.length ≤ 64
open Classical in
noncomputable def chkS (ins:In) (gs:Ga) (outs:List Int):Int:=if Fits ins gs outs then if goodC ins gs outs then 0 else 8 else 4
theorem chk_many {ins gs outs} (h:¬ Fits ins gs outs):4=chkS ins gs outs:=(if_neg h).symm
theorem chk_bad {ins gs outs} (hf:Fits ins gs outs) (h:¬ goodC ins gs outs):8=chkS ins gs outs:=((if_pos hf).trans (if_neg h)).symm
theorem chk_ok {ins gs outs} (hf:Fits ins gs outs) (h:goodC ins gs outs):0=chkS ins gs outs:=((if_pos hf).trans (if_pos h)).symm
theorem toNat_sub1 (i:Nat):((i:Int) - 1).toNat=i - 1:=by omega
theorem upTo {p:Nat→Prop} {i:Nat} (h:∀ j,j < i→p j) (hi:p i):∀ j,j < i + 1→p j:=fun j hj=>by
 by_cases e:j=i
 ·subst e;exact hi
 ·exact h j (by omega)
abbrev H1 (e1 e2 e3:Bool) (ins:In) (gs:Ga) (outs:List Int):Heap:=[(0,.row 3 [circV e1 e2 e3 ins gs outs])]
def RdL (h:Heap) (a b:Nat):List FV→List (List Int)→Prop
 |[],[]=>True
 |v::r,l::q=>(∃ id,v=.sref 1 id l.length 0 l.length∧id ≠ a∧id < b∧hget h id=some (.row 1 (l.map intV)))∧RdL h a b r q
 |_,_=>False
theorem RdL.length {h:Heap} {a b:Nat}:∀ {r:List FV} {q:List (List Int)},RdL h a b r q→r.length=q.length:=by
 intro r
 induction r with
 |nil=>intro q hq;cases q with | nil=>rfl | cons=>cases hq
 |cons v r ih=>intro q hq;cases q with | nil=>cases hq | cons l q=>simp [ih hq.2]
theorem RdL.mono {h h':Heap} {a b b':Nat} (hb:b ≤ b') (hh:∀ id,id ≠ a→id < b→hget h' id=hget h id):∀ {r:List FV} {q:List (List Int)},RdL h a b r q→RdL h' a b' r q:=by
 intro r
 induction r with
 |nil=>intro q hq;cases q with | nil=>trivial | cons=>cases hq
 |cons v r ih =>
  intro q hq
  cases q with
  |nil=>cases hq
  |cons l q =>
   obtain ⟨⟨id,h1,h2,h3,h4⟩,h5⟩:=hq
   exact ⟨⟨id,h1,h2,by omega,by rw [hh id h2 h3];exact h4⟩,ih h5⟩
theorem RdL.append {h:Heap} {a b:Nat} {r':List FV} {q':List (List Int)} (hq':RdL h a b r' q'):∀ {r:List FV} {q:List (List Int)},RdL h a b r q→RdL h a b (r ++ r') (q ++ q'):=by
 intro r
 induction r with
 |nil=>intro q hq;cases q with | nil=>exact hq' | cons=>cases hq
 |cons v r ih=>intro q hq;cases q with | nil=>cases hq | cons l q=>exact ⟨hq.1,ih hq.2⟩
def clV (l:List Int):FV:=.lst false (l.map intV)
theorem RdL.frz {h:Heap} {a b:Nat}:∀ {r:List FV} {q:List (List Int)} {n:Nat},RdL h a b r q→(∀ l ∈ q,l.length ≤ 1000)→r.length + 1100 ≤ n→frzs h n r=some (q.map clV):=by
 intro r
 induction r with
 |nil=>intro q n hq _ _;cases q with | nil=>exact fzs_n | cons=>cases hq
 |cons v r ih =>
  intro q n hq hl hn
  cases q with
  |nil=>cases hq
  |cons l q =>
   obtain ⟨⟨id,h1,h2,h3,h4⟩,h5⟩:=hq
   subst h1
   simp only [List.length_cons] at hn
   obtain ⟨k,rfl⟩:∃ k,n=k + 2:=⟨n - 2,by omega⟩
   have hl1:=hl l (by simp)
   rw [show k + 2=(k + 1) + 1 from rfl,fzs_c,fz_ref,el_r,h4,elRow_r,Ck_pos ⟨by simp,by omega⟩,B_some,cut_d]
   rw [ih h5 (fun l hl'=>hl l (by simp [hl'])) (by omega)]
   have:List.take (0 + l.length - 0) (List.drop 0 (l.map intV))=l.map intV:=by
    rw [Nat.zero_add,Nat.sub_zero,List.drop_zero];exact take_full (by simp)
   rw [this,frzs_pure (pu3 l) (by simp;omega)]
   ·rfl
   ·decide
def clG (n:Nat) (gs:Ga) (i:Nat):List (List Int):=[[0 - ((2 + n + i:Nat):Int),litS (gs.getD i (0,0)).1],[0 - ((2 + n + i:Nat):Int),litS (gs.getD i (0,0)).2],[((2 + n + i:Nat):Int),0 - litS (gs.getD i (0,0)).1,0 - litS (gs.getD i (0,0)).2]]
def clS (n:Nat) (gs:Ga):Nat→List (List Int)
 |0=>[[-1]]
 |i + 1=>clS n gs i ++ clG n gs i
theorem clS_short (n:Nat) (gs:Ga):∀ i,∀ l ∈ clS n gs i,l.length ≤ 1000:=by
 intro i
 induction i with
 |zero=>intro l hl;simp [clS] at hl;subst hl;decide
 |succ i ih =>
  intro l hl
  simp only [clS,List.mem_append] at hl
  rcases hl with hl | hl
  ·exact ih l hl
  ·simp only [clG,List.mem_cons,List.not_mem_nil,or_false] at hl
   rcases hl with rfl | rfl | rfl<;>simp
theorem clS_len (n:Nat) (gs:Ga):∀ i,(clS n gs i).length=1 + 3 * i:=by
 intro i
 induction i with
 |zero=>rfl
 |succ i ih=>simp only [clS,List.length_append,ih,clG,List.length_cons,List.length_nil];omega
theorem litS_bd {l:Int} (h0:0 ≤ l) (h1:l < 1152921504606846976):-1152921504606846976 ≤ litS l∧litS l ≤ 1152921504606846976:=by
 unfold litS;split<;>omega
open Classical in
noncomputable def clausesS (e:Bool) (ins:In) (gs:Ga) (outs:List Int) (o:Int):FV :=
 if chkS ins gs outs=0 then
  if o < 0 ∨ outs.length ≤ o then .tup [.int .i64 0,.lst e [],.int .i64 2]
  else if 5000 < (1:Int) + ins.length + gs.length then .tup [.int .i64 0,.lst e [],.int .i64 4]
  else .tup [.int .i64 (1 + ins.length + gs.length),.lst false ((clS ins.length gs gs.length ++ [[litS (outs.getD o.toNat 0)]]).map clV),.int .i64 0]
 else .tup [.int .i64 0,.lst e [],.int .i64 (chkS ins gs outs)]
theorem chk_good {ins gs outs} (h:chkS ins gs outs=0):goodC ins gs outs:=by
 unfold chkS at h
 split at h
 ·split at h
  ·assumption
  ·cases h
 ·cases h
theorem pu5 (l:List Bool):pures (l.map .bool)=true:=pures_map (fun _=>rfl) _
theorem pu6 (l:List Bool):pure_ (.lst false (l.map .bool))=true:=by simp [pure_,pu5]
theorem lo5 (b:Nat) (l:List Bool):lows b (l.map .bool)=true:=lows_map (fun _=>rfl) _
theorem al5 (l:List Bool):(l.map FV.bool).all FV.ok=true:=all_map (fun _=>rfl) _
theorem cl5 (l:List Bool):((l.map FV.bool).all fun v=>v.cells.length == 1)=true:=all_map (fun _=>rfl) _
theorem gd5 {l:List Bool} {i:Nat} {d:FV} (h:i < l.length):(l.map FV.bool).getD i d=.bool (l.getD i false):=getD_map _ h
theorem ge5 {l:List Bool} {i:Nat} (h:i < l.length):(l.map FV.bool)[i]? = some (.bool (l.getD i false)):=by simp [List.getD,h]
def LAWS3:=And.intro @ge5 <| And.intro pu5 <| And.intro lo5 <| And.intro al5 <| And.intro cl5 <| @gd5
def litB (ns:List Bool) (l:Int):Bool:=ns.getD (l / 2).toNat false != decide (l % 2=1)
theorem lows_app (b:Nat) (x y:List FV):lows b (x ++ y)=(lows b x && lows b y):=by
 induction x with
 |nil=>simp [lows]
 |cons v x ih=>simp [lows,ih,Bool.and_assoc]
def nodesS (inb:List Bool) (gs:Ga):Nat→List Bool
 |0=>false::inb
 |i + 1=>nodesS inb gs i ++ [litB (nodesS inb gs i) (gs.getD i (0,0)).1 && litB (nodesS inb gs i) (gs.getD i (0,0)).2]
theorem nodesS_len (inb:List Bool) (gs:Ga):∀ i,(nodesS inb gs i).length=1 + inb.length + i:=by
 intro i
 induction i with
 |zero=>simp [nodesS];omega
 |succ i ih=>simp [nodesS,ih];omega
theorem snocB (l:List Bool) (a:Bool):l.map FV.bool ++ [FV.bool a]=(l ++ [a]).map FV.bool:=by simp
def outsS (ns:List Bool) (outs:List Int):List Bool:=outs.map (litB ns)
theorem take_snoc {α:Type} (l:List α) (i:Nat) (d:α) (h:i < l.length):l.take i ++ [l.getD i d]=l.take (i + 1):=by
 rw [List.take_add_one];simp [List.getD,h]
open Classical in
noncomputable def runS (e:Bool) (ins:In) (gs:Ga) (outs:List Int) (inb:List Bool):FV :=
 if chkS ins gs outs=0 then
  if inb.length=ins.length then .tup [.lst e ((outsS (nodesS inb gs gs.length) outs).map .bool),.int .i64 0]
  else .tup [.lst true [],.int .i64 2]
 else .tup [.lst true [],.int .i64 (chkS ins gs outs)]
theorem pu4 (q:List (List Int)):pures (q.map clV)=true:=pures_map (fun l=>by simp [clV,pure_,pu3]) _
theorem lo4 (b:Nat) (q:List (List Int)):lows b (q.map clV)=true:=lows_map (fun l=>by simp [clV,low,lo3]) _
theorem gd4 {q:List (List Int)} {i:Nat} {d:FV} (h:i < q.length):(q.map clV).getD i d=.lst false ((q.getD i []).map intV):=getD_map _ h
def LAWS2:=And.intro pu3 <| And.intro lo3 <| And.intro @gd3 <| And.intro pu4 <| And.intro lo4 @gd4
def litA (ns:List Bool) (a:Int):Bool:=(decide (0 < a) && decide (a ≤ ns.length) && ns.getD (a - 1).toNat false) || (decide (a < 0) && decide (-(ns.length:Int) ≤ a) && !ns.getD (-a - 1).toNat false)
def satS (q:List (List Int)) (ns:List Bool):Bool:=q.all fun l=>l.any (litA ns)
theorem litA_lit {ns:List Bool} {l:Int} (h0:0 ≤ l) (h1:l < 2 * ns.length):litA ns (litS l)=litB ns l:=by
 unfold litA litS litB
 by_cases h:l % 2=1
 ·have e1:¬ (0:Int) < -(l / 2 + 1):=by omega
  have e2:-(l / 2 + 1) < (0:Int):=by omega
  have e3:-(ns.length:Int) ≤ -(l / 2 + 1):=by omega
  have e4:(- -(l / 2 + 1) - 1:Int).toNat=(l / 2).toNat:=by omega
  simp only [h,if_true,e1,e2,e3,e4,decide_true,decide_false,Bool.true_and,Bool.false_and,Bool.false_or]
  simp
 ·have e1:(0:Int) < l / 2 + 1:=by omega
  have e2:¬ l / 2 + 1 < (0:Int):=by omega
  have e3:l / 2 + 1 ≤ (ns.length:Int):=by omega
  have e4:(l / 2 + 1 - 1:Int).toNat=(l / 2).toNat:=by omega
  simp only [h,if_false,e1,e2,e3,e4,decide_true,decide_false,Bool.true_and,Bool.false_and,Bool.or_false]
  simp
theorem litA_neg {ns:List Bool} {l:Int} (h0:0 ≤ l) (h1:l < 2 * ns.length):litA ns (0 - litS l)=!litB ns l:=by
 unfold litA litS litB
 by_cases h:l % 2=1
 ·have e0:(0:Int) - -(l / 2 + 1)=l / 2 + 1:=by omega
  have e1:(0:Int) < l / 2 + 1:=by omega
  have e2:¬ l / 2 + 1 < (0:Int):=by omega
  have e3:l / 2 + 1 ≤ (ns.length:Int):=by omega
  have e4:(l / 2 + 1 - 1:Int).toNat=(l / 2).toNat:=by omega
  simp only [h,if_true,e0,e1,e2,e3,e4,decide_true,decide_false,Bool.true_and,Bool.false_and,Bool.or_false]
  simp
 ·have e0:(0:Int) - (l / 2 + 1)=-(l / 2 + 1):=by omega
  have e1:¬ (0:Int) < -(l / 2 + 1):=by omega
  have e2:-(l / 2 + 1) < (0:Int):=by omega
  have e3:-(ns.length:Int) ≤ -(l / 2 + 1):=by omega
  have e4:(- -(l / 2 + 1) - 1:Int).toNat=(l / 2).toNat:=by omega
  simp only [h,if_false,e0,e1,e2,e3,e4,decide_true,decide_false,Bool.true_and,Bool.false_and,Bool.false_or]
  simp
theorem litA_pos {ns:List Bool} {g:Nat} (h:g < ns.length):litA ns ((g + 1:Nat):Int)=ns.getD g false:=by
 unfold litA
 have e1:(0:Int) < ((g + 1:Nat):Int):=by omega
 have e2:¬ ((g + 1:Nat):Int) < 0:=by omega
 have e3:((g + 1:Nat):Int) ≤ (ns.length:Int):=by omega
 have e4:(((g + 1:Nat):Int) - 1).toNat=g:=by omega
 simp only [e1,e2,e3,e4,decide_true,decide_false,Bool.true_and,Bool.false_and,Bool.or_false]
theorem litA_m {ns:List Bool} {g:Nat} (h:g < ns.length):litA ns (0 - ((g + 1:Nat):Int))=!ns.getD g false:=by
 unfold litA
 have e1:¬ (0:Int) < 0 - ((g + 1:Nat):Int):=by omega
 have e2:0 - ((g + 1:Nat):Int) < 0:=by omega
 have e3:-(ns.length:Int) ≤ 0 - ((g + 1:Nat):Int):=by omega
 have e4:(-(0 - ((g + 1:Nat):Int)) - 1).toNat=g:=by omega
 simp only [e1,e2,e3,e4,decide_true,decide_false,Bool.true_and,Bool.false_and,Bool.false_or]
theorem litA_a {ns:List Bool} {a:Int} (h0:0 < a) (h1:a ≤ ns.length):litA ns a=ns.getD (a - 1).toNat false:=by
 unfold litA
 have e2:¬ a < 0:=by omega
 simp only [h0,h1,e2,decide_true,decide_false,Bool.true_and,Bool.false_and,Bool.or_false]
theorem litA_c {ns:List Bool} {a:Int} (h0:a < 0) (h1:0 - (ns.length:Int) ≤ a):litA ns a=!ns.getD (0 - a - 1).toNat false:=by
 unfold litA
 have e2:¬ 0 < a:=by omega
 have e3:-(ns.length:Int) ≤ a:=by omega
 have e4:-a - 1=0 - a - 1:=by omega
 simp only [h0,e3,e2,e4,decide_true,decide_false,Bool.true_and,Bool.false_and,Bool.false_or]
theorem litA_o {ns:List Bool} {a:Int} (h0:a ≤ 0 ∨ ns.length < a) (h1:0 ≤ a ∨ a < 0 - (ns.length:Int)):litA ns a=false:=by
 unfold litA
 rcases h0 with h0 | h0
 ·rcases h1 with h1 | h1
  ·have e1:¬ 0 < a:=by omega
   have e2:¬ a < 0:=by omega
   simp only [e1,e2,decide_false,Bool.false_and,Bool.or_false]
  ·have e1:¬ 0 < a:=by omega
   have e2:¬ -(ns.length:Int) ≤ a:=by omega
   simp only [e1,e2,decide_false,Bool.false_and,Bool.or_false,Bool.and_false]
 ·have e1:¬ a ≤ ns.length:=by omega
  have e2:¬ a < 0:=by omega
  simp only [e1,e2,decide_false,Bool.false_and,Bool.or_false,Bool.and_false]
theorem clG_iff {ns:List Bool} {n:Nat} {gs:Ga} {i:Nat} (hg:goodG n gs i) (hn:1 + n + i < ns.length):(clG n gs i).all (fun l=>l.any (litA ns))=decide (ns.getD (1 + n + i) false=(litB ns (gs.getD i (0,0)).1 && litB ns (gs.getD i (0,0)).2)):=by
 unfold goodG at hg
 have e:2 + n + i=(1 + n + i) + 1:=by omega
 unfold clG
 rw [e]
 simp only [List.all_cons,List.all_nil,List.any_cons,List.any_nil,Bool.or_false,Bool.and_true]
 rw [litA_m hn,litA_pos hn,litA_lit (by omega) (by omega),litA_lit (by omega) (by omega),litA_neg (by omega) (by omega),litA_neg (by omega) (by omega)]
 cases ns.getD (1 + n + i) false<;>cases litB ns (gs.getD i (0,0)).1<;>cases litB ns (gs.getD i (0,0)).2<;>rfl
theorem clS_iff {ns:List Bool} {n:Nat} {gs:Ga}:∀ (m:Nat),(∀ i,i < m→goodG n gs i)→1 + n + m ≤ ns.length→
  ((clS n gs m).all (fun l=>l.any (litA ns))=true ↔ ns.getD 0 false=false∧∀ i,i < m→ns.getD (1 + n + i) false=(litB ns (gs.getD i (0,0)).1 && litB ns (gs.getD i (0,0)).2)):=by
 intro m
 induction m with
 |zero =>
  intro _ hn
  have e:=litA_m (ns:=ns) (g:=0) (by omega)
  have e':(0:Int) - ((0 + 1:Nat):Int)=-1:=rfl
  rw [e'] at e
  simp only [clS,List.all_cons,List.all_nil,List.any_cons,List.any_nil,Bool.or_false,Bool.and_true,e]
  simp
 |succ m ih =>
  intro hg hn
  simp only [clS,List.all_append,Bool.and_eq_true]
  rw [ih (fun i hi=>hg i (by omega)) (by omega),clG_iff (hg m (by omega)) (by omega)]
  simp only [decide_eq_true_eq]
  constructor
  ·rintro ⟨⟨a,b⟩,c⟩
   exact ⟨a,upTo b c⟩
  ·rintro ⟨a,b⟩
   exact ⟨⟨a,fun i hi=>b i (by omega)⟩,b m (by omega)⟩
theorem nodesS_get (inb:List Bool) (gs:Ga):∀ (m i j:Nat),i ≤ m→j < 1 + inb.length + i→(nodesS inb gs m).getD j false=(nodesS inb gs i).getD j false:=by
 intro m
 induction m with
 |zero=>intro i j hi _;rw [show i=0 by omega]
 |succ m ih =>
  intro i j hi hj
  by_cases e:i=m + 1
  ·rw [e]
  ·rw [← ih i j (by omega) hj]
   show (nodesS inb gs m ++ _).getD j false=_
   have hl:=nodesS_len inb gs m
   simp only [List.getD]
   rw [List.getElem?_append_left (by omega)]
theorem litB_pre {ns ns':List Bool} {l:Int} (h0:0 ≤ l) {n:Nat} (h1:l < 2 * n) (h:∀ j,j < n→ns.getD j false=ns'.getD j false):litB ns l=litB ns' l:=by
 unfold litB
 rw [h (l / 2).toNat (by omega)]
theorem nodesS_gate (inb:List Bool) (gs:Ga) (m:Nat) (hg:∀ i,i < m→goodG inb.length gs i) (i:Nat) (hi:i < m) :
  (nodesS inb gs m).getD (1 + inb.length + i) false=(litB (nodesS inb gs m) (gs.getD i (0,0)).1 && litB (nodesS inb gs m) (gs.getD i (0,0)).2):=by
 have g:=hg i hi
 unfold goodG at g
 rw [nodesS_get inb gs m (i + 1) _ (by omega) (by omega)]
 have e:∀ l:Int,0 ≤ l→l < 2 * (1 + inb.length + i)→litB (nodesS inb gs m) l=litB (nodesS inb gs i) l:=fun l h0 h1=>litB_pre (n:=1 + inb.length + i) h0 (by omega) fun j hj=>nodesS_get inb gs m i j (by omega) hj
 rw [e _ (by omega) (by omega),e _ (by omega) (by omega)]
 have hl:=nodesS_len inb gs i
 show (nodesS inb gs i ++ _).getD _ false=_
 simp only [List.getD]
 rw [List.getElem?_append_right (by omega),show 1 + inb.length + i - (nodesS inb gs i).length=0 by omega]
 rfl
theorem nodesS_zero (inb:List Bool) (gs:Ga) (m:Nat):(nodesS inb gs m).getD 0 false=false:=by
 rw [nodesS_get inb gs m 0 0 (by omega) (by omega)];rfl
theorem law_A (inb:List Bool) (gs:Ga) (o:Int) (hg:∀ i,i < gs.length→goodG inb.length gs i) (h0:0 ≤ o) (h1:o < 2 * (1 + (inb.length + gs.length:Nat))) :
  satS (clS inb.length gs gs.length ++ [[litS o]]) (nodesS inb gs gs.length)=litB (nodesS inb gs gs.length) o:=by
 have hl:=nodesS_len inb gs gs.length
 unfold satS
 rw [List.all_append,(clS_iff gs.length hg (by omega)).2 ⟨nodesS_zero _ _ _,nodesS_gate inb gs gs.length hg⟩]
 simp only [List.all_cons,List.all_nil,List.any_cons,List.any_nil,Bool.or_false,Bool.and_true,Bool.true_and]
 exact litA_lit h0 (by omega)
theorem law_B (inb:List Bool) (gs:Ga) (o:Int) (hg:∀ i,i < gs.length→goodG inb.length gs i) (i:Nat) (hi:i < gs.length) :
  satS (clS inb.length gs gs.length ++ [[litS o]]) ((nodesS inb gs gs.length).set (1 + inb.length + i) (!(nodesS inb gs gs.length).getD (1 + inb.length + i) false))=false:=by
 have hl:=nodesS_len inb gs gs.length
 have key:∀ ns',ns'=(nodesS inb gs gs.length).set (1 + inb.length + i) (!(nodesS inb gs gs.length).getD (1 + inb.length + i) false)→satS (clS inb.length gs gs.length ++ [[litS o]]) ns'=false:=by
  intro ns' hns
  have hl':ns'.length=(nodesS inb gs gs.length).length:=by rw [hns,List.length_set]
  have hp:∀ j,j < 1 + inb.length + i→ns'.getD j false=(nodesS inb gs gs.length).getD j false:=fun j hj=>by
   rw [hns];simp only [List.getD];rw [List.getElem?_set_ne (by omega)]
  have ho:ns'.getD (1 + inb.length + i) false=!(nodesS inb gs gs.length).getD (1 + inb.length + i) false:=by
   rw [hns];simp only [List.getD];rw [List.getElem?_set_self (by omega)];rfl
  unfold satS
  rw [List.all_append,Bool.and_eq_false_iff]
  left
  rw [← Bool.not_eq_true,clS_iff gs.length hg (by omega)]
  rintro ⟨_,h⟩
  have h2:=h i hi
  have g:=hg i hi
  unfold goodG at g
  rw [ho,litB_pre (n:=1 + inb.length + i) (by omega) (by omega) hp,litB_pre (n:=1 + inb.length + i) (by omega) (by omega) hp,← nodesS_gate inb gs gs.length hg i hi] at h2
  cases hx:(nodesS inb gs gs.length).getD (1 + inb.length + i) false<;>rw [hx] at h2<;>cases h2
 exact key _ rfl
end Go.FI.BC
namespace Go.FI.BC
open Go.ChangeShapes Go.WideShapes Go.RowKit Go.FI
theorem circ_view [Sys] {P:Program} {n:Nat} {t:TypeId} {cs:List FV} {li lg lo ei eg str i64:Nat} (h1:OfT P n t cs) (ha:isAgg P t=true) (hl:P.cellsOf t=3) (h0:fldAt P t 0=some (li,0,1)) (h2:fldAt P t 1=some (lg,1,1)) (h3:fldAt P t 2=some (lo,2,1))
  (k1:sliceOf P li=some ei) (k2:sliceOf P lg=some eg) (k3:sliceOf P lo=some i64) (p1:isAgg P ei=true) (p2:P.cellsOf ei=2) (p3:fldAt P ei 0=some (str,0,1)) (p4:fldAt P ei 1=some (i64,1,1)) (q1:isAgg P eg=true) (q2:P.cellsOf eg=2) (q3:fldAt P eg 0=some (i64,0,1)) (q4:fldAt P eg 1=some (i64,1,1))
  (s1:strT P str=true) (s2:kindOf P i64=some .i64) (s3:isAgg P i64=false):∃ (ins:In) (gs:Ga) (outs:List Int),ins.length ≤ maxLen∧mkE P t cs=circV false false false ins gs outs:=by
 obtain ⟨_,f1⟩:=h1.field 0 h0
 obtain ⟨_,f2⟩:=h1.field 1 h2
 obtain ⟨_,f3⟩:=h1.field 2 h3
 have hl:=h1.len hl
 match cs,hl with
 |[x,y,z],_ =>
  obtain ⟨ins,e1,l1,_⟩:=f1.pairs (f:=.str) (g:=.int .i64) (ga:=fun _=>True) (gb:=fun _=>True) k1 p1 p2 p3 p4
   (fun m c hc=>by obtain ⟨s,e,_⟩:=hc.str s1;exact ⟨s,e,trivial⟩) (fun m c hc=>by obtain ⟨s,e,_⟩:=hc.int s2;exact ⟨s,e,trivial⟩)
  obtain ⟨gs,e2,l2,_⟩:=f2.pairs (f:=.int .i64) (g:=.int .i64) (ga:=fun _=>True) (gb:=fun _=>True) k2 q1 q2 q3 q4
   (fun m c hc=>by obtain ⟨s,e,_⟩:=hc.int s2;exact ⟨s,e,trivial⟩) (fun m c hc=>by obtain ⟨s,e,_⟩:=hc.int s2;exact ⟨s,e,trivial⟩)
  obtain ⟨outs,e3,l3,_⟩:=f3.ints k3 s2 s3
  simp at e1 e2 e3
  refine ⟨ins,gs,outs,l1,?_⟩
  rw [mkE_agg ha,e1,e2,e3]
  rfl
end Go.FI.BC
