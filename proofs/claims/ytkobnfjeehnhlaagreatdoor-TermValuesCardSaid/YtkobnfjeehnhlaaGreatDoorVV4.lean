/- Parts of the proof, one behind the other. -/
import Derived.Test.YtkobnfjeehnhlaaGreatDoorVV3
import Derived.Sort.LotA
import Derived.Sort.LotB
import Derived.Sort.LotC
import Derived.Sort.LotD3
import Derived.Test.YtkobnfjeehnhlaaGreatDoorVV1
import Derived.ChangeShapes
import Derived.ChangeSame
import Derived.Carry
import Derived.OpenShut
set_option linter.all false
namespace Go.FI
noncomputable section
section
variable {T:Tab} {cal:Call} {id:Nat} {d:Option Nat} {re:List (Option (Nat × Bool) × Option Nat × Nat × Nat)} {m:Tm} {h:Heap} {nx:Nat} {x y z:X} {r:List G} {k:List I}
theorem np_l {f:Nat} {a:List FV}:np (lim T) f a h nx=@B (FV × Heap × Nat) (FV × Heap × Nat) (lim T f a h nx) ⟨fun r=>@If (Option (FV × Heap × Nat)) (A1z r.1) ⟨none,some r⟩⟩:=by
 unfold np
 show bnd _ _=bnd _ _
 congr 1
 funext r
 cases hp:A1z r.1<;>simp [chk,If,hp]
theorem Aui {k:IntKind} {n:Int}:A1z (.int k n)=false:=rfl
theorem Aw8 {b:Bool}:A1z (.bool b)=false:=rfl
theorem Axo {b:List UInt8}:A1z (.str b)=false:=rfl
theorem Awh {cs:List FV}:A1z (.agg cs)=false:=rfl
theorem Au4 {cs:List FV}:A1z (.tup cs)=false:=rfl
theorem Axu {b:Bool} {cs:List FV}:A1z (.lst b cs)=false:=rfl
theorem Axm {cs:List FV} {o:Nat}:A1z (.eptr cs o)=false:=rfl
theorem Awt {a b c e:Nat}:A1z (.ptr a b c e)=false:=rfl
theorem Awu {a b c e f:Nat}:A1z (.sref a b c e f)=false:=rfl
theorem Atj {a:Nat}:A1z (.map a)=false:=rfl
theorem Aw4 {a:Nat} {cs:List FV}:A1z (.fn a cs)=false:=rfl
theorem Avm {a:Nat} {v:FV}:A1z (.ifc a v)=false:=rfl
theorem Awl:A1z .nilp=false:=rfl
theorem Arj:A1z .nilf=false:=rfl
theorem Aqu:A1z .nilm=false:=rfl
theorem Aqt:A1z .nili=false:=rfl
theorem Alv {v:FV}:A1z (.pan v)=true:=rfl
def snV (n:Bool):FV→Option FV
 |.lst _ (_::_)=>some (.bool n)
 |.sref _ _ _ _ (_ + 1)=>some (.bool n)
 |_=>none
theorem r_sn {n:Bool}:rops cal id (⟨d,none,.sn n x,[]⟩::r) m h nx=@B FV (Tm × Heap × Nat) (snV n (ev m x)) ⟨fun v=>rops cal (id + 1) r (put m d v) h nx⟩:=A1e rfl
theorem Atk {n e:Bool} {v:FV} {vs:List FV}:snV n (.lst e (v::vs))=some (.bool n):=rfl
def xaV (n es:Nat) (ag:Option Nat):FV→FV→Option FV
 |.agg cs,.int _ k=>@Ck FV (0 ≤ k∧k < n) ⟨fun _=>A0l cs ag (k.toNat * es)⟩
 |_,_=>none
theorem Aty {n es:Nat} {ag:Option Nat} {cs:List FV} {k:IntKind} {j:Int}:xaV n es ag (.agg cs) (.int k j)=@Ck FV (0 ≤ j∧j < n) ⟨fun _=>A0l cs ag (j.toNat * es)⟩:=rfl
theorem r_xa {n es:Nat} {ag:Option Nat}:rops cal id (⟨d,none,.xa n es ag x y,[]⟩::r) m h nx=@B FV (Tm × Heap × Nat) (xaV n es ag (ev m x) (ev m y)) ⟨fun v=>rops cal (id + 1) r (put m d v) h nx⟩:=A1e (by
 show bnd (opv h m (.xa n es ag x y)) _=_
 congr 1
 simp only [opv]
 cases ev m x<;>(try rfl)<;>cases ev m y<;>(try rfl)
 simp only [xaV,A1m])
theorem Avr {n es o:Nat} {cs:List FV} {k:IntKind} {j:Int}:aaV n es (.eptr cs o) (.int k j)=@Ck FV (0 ≤ j∧j < n) ⟨fun _=>some (.eptr cs (o + j.toNat * es))⟩:=rfl
theorem Aw5 {n es i s l o:Nat} {k:IntKind} {j:Int}:aaV n es (.ptr i s l o) (.int k j)=@Ck FV (0 ≤ j∧j < n) ⟨fun _=>some (.ptr i s l (o + j.toNat * es))⟩:=rfl
def csV (h:Heap) (v:FV):Option FV:=@B (List FV) FV (A44 h v) ⟨fun xs=>@B (List UInt8) FV (A7t xs) ⟨fun s=>some (.str s)⟩⟩
theorem r_cs:rops cal id (⟨d,none,.cs x,[]⟩::r) m h nx=@B FV (Tm × Heap × Nat) (csV h (ev m x)) ⟨fun v=>rops cal (id + 1) r (put m d v) h nx⟩:=A1e rfl
theorem Auw {e:Bool} {xs:List FV}:csV h (.lst e xs)=@B (List UInt8) FV (A7t xs) ⟨fun s=>some (.str s)⟩:=rfl
theorem Ay4 {es i st off l:Nat}:csV h (.sref es i st off l)=@B (List FV) FV (elems h (.sref es i st off l)) ⟨fun xs=>@B (List UInt8) FV (A7t xs) ⟨fun s=>some (.str s)⟩⟩:=rfl
def taV (t:Nat) (zv:FV):FV→Option FV
 |.ifc u v=>some (if u=t then .tup [v,.bool true] else .tup [zv,.bool false])
 |.nili=>some (.tup [zv,.bool false])
 |_=>none
theorem r_ta {t:Nat} {zv:FV}:rops cal id (⟨d,none,.ta t zv x,[]⟩::r) m h nx=@B FV (Tm × Heap × Nat) (taV t zv (ev m x)) ⟨fun v=>rops cal (id + 1) r (put m d v) h nx⟩:=A1e rfl
theorem Ay6 {t u:Nat} {zv v:FV}:taV t zv (.ifc u v)=some (if u=t then .tup [v,.bool true] else .tup [zv,.bool false]):=rfl
theorem Awr {t:Nat} {zv:FV}:taV t zv .nili=some (.tup [zv,.bool false]):=rfl
def isnV (n:Bool):FV→Option FV
 |.ifc _ _=>some (.bool n)
 |.nili=>some (.bool !n)
 |_=>none
theorem Axe {n:Bool}:rops cal id (⟨d,none,.isn n x,[]⟩::r) m h nx=@B FV (Tm × Heap × Nat) (isnV n (ev m x)) ⟨fun v=>rops cal (id + 1) r (put m d v) h nx⟩:=A1e rfl
theorem Art {n:Bool} {u:Nat} {v:FV}:isnV n (.ifc u v)=some (.bool n):=rfl
theorem Arn {n:Bool}:isnV n .nili=some (.bool !n):=rfl
def ibV:FV→FV→Option FV
 |.str s,.int .u8 n=>some (.int .i64 (idxB s n.toNat.toUInt8))
 |_,_=>none
theorem r_ib:rops cal id (⟨d,none,.ib x y,[]⟩::r) m h nx=@B FV (Tm × Heap × Nat) (ibV (ev m x) (ev m y)) ⟨fun v=>rops cal (id + 1) r (put m d v) h nx⟩:=A1e rfl
theorem Avf {s:List UInt8} {n:Int}:ibV (.str s) (.int .u8 n)=some (.int .i64 (idxB s n.toNat.toUInt8)):=rfl
theorem A5r {f:Nat} {d:Fn} {args:List FV} {r:FV} {h0 h':Heap} {nx0 nx':Nat} (ht:tget T f=some (.fn d)) (hm:d.mode=.iso) (hl:lim T f args h0 nx0=some (r,h',nx')) (hlt:f < RB:=by decide):∀ h nx,lim T f args h nx=some (r,h,nx):=by
 intro h nx
 rw [Aci ht hlt] at hl ⊢
 unfold A1k at hl ⊢
 rw [hm] at hl ⊢
 simp only at hl ⊢
 obtain ⟨h1,hl⟩:=A02 hl
 obtain ⟨h2,hl⟩:=A02 hl
 rw [chk,if_pos h1,chk,if_pos h2]
 obtain ⟨x,h3,hl⟩:=A01 hl
 obtain ⟨v,h4,hl⟩:=A01 hl
 obtain ⟨r',h5,hl⟩:=A01 hl
 cases hl
 exact A07 h3 (A07 h4 (A07 h5 rfl))
def lkR (zv:FV):Option FV→FV
 |some v=>.tup [v,.bool true]
 |none=>.tup [zv,.bool false]
def lkM (kt:Nat) (zv:FV) (ok:Bool) (kv:FV):Option Obj→Option FV
 |some (.mp en)=>@B (Option FV) FV (find kt kv en) ⟨fun r=>some (if ok=true then lkR zv r else r.getD zv)⟩
 |_=>none
theorem Agy {kt id:Nat} {zv kv:FV} {ok:Bool}:lookup h kt zv ok kv (.map id)=lkM kt zv ok kv (hget h id):=by
 simp only [lookup,lkM]
 cases hget h id with
 |none=>rfl
 |some o =>
  cases o with
  |mp en =>
   simp only [B]
   cases find kt kv en with
   |none=>rfl
   |some r=>cases r<;>cases ok<;>rfl
  |_=>rfl
theorem Avj {kt:Nat} {zv kv:FV} {en:List (FV × FV)}:lkM kt zv true kv (some (.mp en))=@B (Option FV) FV (find kt kv en) ⟨fun r=>some (lkR zv r)⟩:=rfl
theorem Aue {kt:Nat} {zv kv:FV} {en:List (FV × FV)}:lkM kt zv false kv (some (.mp en))=@B (Option FV) FV (find kt kv en) ⟨fun r=>some (r.getD zv)⟩:=rfl
theorem Aup {zv v:FV}:lkR zv (some v)=.tup [v,.bool true]:=rfl
theorem Awa {zv:FV}:lkR zv none=.tup [zv,.bool false]:=rfl
def muM (h:Heap) (i kt:Nat) (kv v:FV):Option Obj→Option Heap
 |some (.mp en)=>@B (List (FV × FV)) Heap (update kt kv v en) ⟨fun en'=>some (hset h i (.mp en'))⟩
 |_=>none
theorem Ats {kt i:Nat} {kv v:FV}:muV h kt kv v (.map i)=muM h i kt kv v (hget h i):=by
 simp only [muV,muM]
 cases hget h i with
 |none=>rfl
 |some o=>cases o<;>rfl
theorem Awb {kt i:Nat} {kv v:FV} {en:List (FV × FV)}:muM h i kt kv v (some (.mp en))=@B (List (FV × FV)) Heap (update kt kv v en) ⟨fun en'=>some (hset h i (.mp en'))⟩:=rfl
def Afj:Option Obj→Option FV
 |some (.mp en)=>some (.int .i64 en.length)
 |_=>none
theorem Agn {i:Nat}:Amd h (.map i)=Afj (hget h i):=by
 simp only [Amd,Afj]
 cases hget h i with
 |none=>rfl
 |some o=>cases o<;>rfl
theorem Adc {en:List (FV × FV)}:Afj (some (.mp en))=some (.int .i64 en.length):=rfl
theorem Ak1 {i:Nat}:(FV.map i).cells=[.map i]:=rfl
theorem ok_m {i:Nat}:(FV.map i).ok=true:=rfl
theorem Awz {i:Nat}:(FV.map i).one=true:=rfl
theorem Ahc:FV.nilm.cells=[.nilm]:=rfl
theorem Awi:FV.nilm.ok=true:=rfl
theorem Ar4:FV.nilm.one=true:=rfl
theorem Aju {c:FV} {cs:List FV}:reshape .nilm (c::cs)=c:=rfl
theorem Ar0 {i:Nat} {c:FV} {cs:List FV}:reshape (.map i) (c::cs)=c:=rfl
def fnV:FV→Option (Nat × List FV)
 |.fn q caps=>some (q,caps)
 |_=>none
theorem Atz {q:Nat} {caps:List FV}:fnV (.fn q caps)=some (q,caps):=rfl
theorem w_rf {f:Nat} {x:X} {ct:List Nat} :
  runs T (.code (.rf f x ct)::k) m h nx=@B (Nat × List FV) Out (fnV (ev m x)) ⟨fun p=>@B (FV × Heap × Nat) Out (np (lim T) p.1 (.yl f nx (evs m (ct.map .t))::p.2) ((nx,.lp 0 0)::h) (nx + 1)) ⟨rfK T k m nx⟩⟩:=by
 generalize hx:ev m x=v
 cases v with
 |fn q caps=>exact Atf hx
 |_=>exact A46 fun n=>by simp only [run,hx]
theorem Avd {n f:Nat} {cs:List FV} (hl:cs.length ≤ n):frz h (n + 1) (.fn f cs)=@B (List FV) FV (frzs h n cs) ⟨fun r=>some (.fn f r)⟩:=by
 cases hp:A0i (.fn f cs) with
 |false=>simp only [frz,hp,Bool.false_eq_true,if_false];rfl
 |true=>rw [A2e hp,A1w (by simpa [A0i] using hp) hl];rfl
theorem Aq9 {n i s j o:Nat}:frz h (n + 1) (.ptr i s j o)=@B FV FV (elemAt h i s j) ⟨fun e=>@B (List FV) FV (frzs h n e.cells) ⟨fun r=>@Ck FV (r.length ≠ 0) ⟨fun _=>some (.eptr r o)⟩⟩⟩:=by
 simp only [frz,A0i,Bool.false_eq_true,if_false]
 show bnd _ _=bnd _ _
 congr 1;funext e
 show bnd _ _=bnd _ _
 congr 1;funext r
 exact A1m
theorem Ahk {i s j es:Nat} {xs:List FV} (hg:hget h i=some (.row es xs)):elemAt h i s j=@Ck FV (xs.length=s) ⟨fun _=>xs[j]?⟩:=by
 simp only [elemAt,hg];exact A1m
theorem A09 {γ δ:Type} {f:Nat} {a:List FV} {F:(FV × Heap × Nat)→Option γ} {G:γ→Option δ} {ps:FV × Heap × Nat→Prop} {q:Post δ} (hl:∃ r,lim T f a h nx=some r∧ps r) (hk:∀ r,ps r→A1z r.1=false∧@Ok δ (@B γ δ (F r) ⟨G⟩) q) :
  @Ok δ (@B γ δ (@B (FV × Heap × Nat) γ (@B (FV × Heap × Nat) (FV × Heap × Nat) (lim T f a h nx) ⟨fun r=>@If (Option (FV × Heap × Nat)) (A1z r.1) ⟨none,some r⟩⟩) ⟨F⟩) ⟨G⟩) q:=by
 obtain ⟨r,h1,h2⟩:=hl
 obtain ⟨h3,h4⟩:=hk r h2
 rw [h1,A12,h3,If_f,A12];exact h4
theorem Abp {δ:Type} {f:Nat} {a:List FV} {F:(FV × Heap × Nat)→Option δ} {ps:FV × Heap × Nat→Prop} {q:Post δ} (hl:∃ r,lim T f a h nx=some r∧ps r) (hk:∀ r,ps r→A1z r.1=false∧@Ok δ (F r) q) :
  @Ok δ (@B (FV × Heap × Nat) δ (@B (FV × Heap × Nat) (FV × Heap × Nat) (lim T f a h nx) ⟨fun r=>@If (Option (FV × Heap × Nat)) (A1z r.1) ⟨none,some r⟩⟩) ⟨F⟩) q:=by
 obtain ⟨r,h1,h2⟩:=hl
 obtain ⟨h3,h4⟩:=hk r h2
 rw [h1,A12,h3,If_f,A12];exact h4
def rfV (T:Tab) (k:List I) (m:Tm) (nx:Nat) (h':Heap) (nx':Nat):Option Obj→Option Out
 |some (.lp st jp)=>@Ck Out (st ≠ 1) ⟨fun _=>runs T (jpI jp k) m (hset h' nx (.lp 3 jp)) nx'⟩
 |_=>none
theorem Axz {v:FV} {h':Heap} {nx':Nat}:rfK T k m nx (v,h',nx')=rfV T k m nx h' nx' (hget h' nx):=by
 simp only [rfK,rfV]
 cases hget h' nx with
 |none=>rfl
 |some o=>cases o<;>first | rfl | exact A1m
theorem Aw7 {h':Heap} {nx':Nat}:rfV T k m nx h' nx' (some (.lp 0 0))=runs T k m (hset h' nx (.lp 3 0)) nx':=A2d (by decide)
theorem Auf {h':Heap} {nx':Nat}:rfV T k m nx h' nx' (some (.lp 2 1))=runs T (.code .rt::k) m (hset h' nx (.lp 3 1)) nx':=A2d (by decide)
theorem Au9 {h':Heap} {nx' e:Nat}:rfV T k m nx h' nx' (some (.lp 2 (e + 2)))=runs T (.code (.xt e)::k) m (hset h' nx (.lp 3 (e + 2))) nx':=A2d (by decide)
def begV (T:Tab) (k:List I) (m:Tm) (h:Heap) (nx id:Nat):Option Obj→Option Out
 |some (.lp 0 jp)=>runs T k m (hset h id (.lp 1 jp)) nx
 |_=>none
theorem Atp {id:Nat}:runs T (.beg id::k) m h nx=begV T k m h nx id (hget h id):=by
 rw [Apy]
 unfold begV
 cases hget h id with
 |none=>rfl
 |some o=>cases o<;>rfl
theorem Ar6 {id jp:Nat}:begV T k m h nx id (some (.lp 0 jp))=runs T k m (hset h id (.lp 1 jp)) nx:=rfl
theorem A8m {f:Nat} {d:Rd} {g id jp:Nat} {caps xs:List FV} (ht:tget T f=some (.rd d)) (hx:xs.length=d.ps.length) (hc:caps.length=d.ct.length) (hg:hget h id=some (.lp 0 jp)) (hge:RB ≤ f:=by decide) :
  lim T f (.yl g id caps::xs) h nx=@B Out (FV × Heap × Nat) (runs T [.code d.asg,.beg id,.code d.body] (A47 d.ps xs ++ A47 d.ct caps) h nx) ⟨leave id⟩:=by
 rw [Aut ht hge]
 simp only [A2z]
 rw [chk,if_pos ⟨hx,hc,by simp [isLp,hg]⟩]
 rfl
def lvV (id:Nat) (h:Heap) (nx:Nat) (v:FV) (o:Obj):Option Obj→Option (FV × Heap × Nat)
 |some (.lp _ _)=>some (v,hset h id o,nx)
 |_=>none
theorem Ae2:leave id (.fin,m,h,nx)=lvV id h nx (.bool true) (.lp 0 0) (hget h id):=by
 simp only [leave,lvV]
 cases hget h id with
 |none=>rfl
 |some o=>cases o<;>rfl
theorem Acp:leave id (.ret,m,h,nx)=lvV id h nx (.bool false) (.lp 2 1) (hget h id):=by
 simp only [leave,lvV]
 cases hget h id with
 |none=>rfl
 |some o=>cases o<;>rfl
theorem Ahh {e:Nat}:leave id (.xt e,m,h,nx)=lvV id h nx (.bool false) (.lp 2 (e + 2)) (hget h id):=by
 simp only [leave,lvV]
 cases hget h id with
 |none=>rfl
 |some o=>cases o<;>rfl
theorem Au8 {v:FV} {o:Obj} {a b:Nat}:lvV id h nx v o (some (.lp a b))=some (v,hset h id o,nx):=rfl
theorem w_xe {e:Nat}:runs T [.code (.xt e)] m h nx=some (.xt e,m,h,nx):=by rw [A4r];rfl
theorem Aw2 {ts:List Nat}:A47 ts []=[]:=by cases ts<;>rfl
theorem Ax3 {vs:List FV}:A47 [] vs=[]:=rfl
theorem Ay0 {t:Nat} {ts:List Nat} {v:FV} {vs:List FV}:A47 (t::ts) (v::vs)=(t,v)::A47 ts vs:=rfl
def rqK (T:Tab) (keep:List Nat) (k:List I) (x:Option FV × Tm × Heap × Nat):Option Out :=
 match x.1 with
 |none=>runs T k (A0g x.2.1 keep) x.2.2.1 x.2.2.2
 |some v=>some (.pan v,x.2.1,x.2.2.1,x.2.2.2)
theorem w_rq {gs:List G} {keep:List Nat}:runs T (.code (.rq gs keep)::k) m h nx=@B (Option FV × Tm × Heap × Nat) Out (A1n (lim T) nx gs m h (nx + gs.length)) ⟨rqK T keep k⟩:=by
 cases hl:A1n (lim T) nx gs m h (nx + gs.length) with
 |none=>exact A46 fun n=>by simp only [run,hl,bnd]
 |some x =>
  obtain ⟨o,y⟩:=x
  cases o with
  |none=>exact A1f fun n=>by simp only [run,hl,bnd]
  |some v=>exact A8d fun n=>by simp only [run,hl,bnd]
theorem Au5 {keep:List Nat}:rqK T keep k (none,m,h,nx)=runs T k (A0g m keep) h nx:=rfl
theorem Av0 {keep:List Nat} {v:FV}:rqK T keep k (some v,m,h,nx)=some (.pan v,m,h,nx):=rfl
theorem Atv:A1n cal id [] m h nx=some (none,m,h,nx):=rfl
def pcK (cal:Call) (id:Nat) (d:Option Nat) (r:List G) (m:Tm) (y:FV × Heap × Nat):Option (Option FV × Tm × Heap × Nat) :=
 match y.1 with
 |.pan v=>some (some v,m,y.2.1,y.2.2)
 |v=>A1n cal (id + 1) r (put m d v) y.2.1 y.2.2
theorem p_cl {f:Nat} {as:List X}:A1n cal id (⟨d,none,.cl f as,re⟩::r) m h nx=@B (FV × Heap × Nat) (Option FV × Tm × Heap × Nat) (cal f (evs m as) h nx) ⟨pcK cal id d r m⟩:=by
 have e:A1n cal id (⟨d,none,.cl f as,re⟩::r) m h nx=bnd (cal f (evs m as) h nx) fun y=>match y.1 with
     |.pan v=>some (some v,m,y.2.1,y.2.2)
     |v=>A1n cal (id + 1) r (put m d v) y.2.1 y.2.2:=rfl
 rw [e]
 cases cal f (evs m as) h nx<;>rfl
theorem Axj {v:FV} {h':Heap} {nx':Nat}:pcK cal id d r m (.pan v,h',nx')=some (some v,m,h',nx'):=rfl
theorem Ava {v:FV} {h':Heap} {nx':Nat} (hv:A1z v=false):pcK cal id d r m (v,h',nx')=A1n cal (id + 1) r (put m d v) h' nx':=by
 cases v<;>first | rfl | (simp [A1z] at hv)
def pnV:FV→Option FV
 |.ifc t v=>some (.ifc t v)
 |_=>none
theorem p_pn:A1n cal id (⟨d,none,.pn x,re⟩::r) m h nx=@B FV (Option FV × Tm × Heap × Nat) (pnV (ev m x)) ⟨fun v=>some (some v,m,h,nx)⟩:=by
 have e:A1n cal id (⟨d,none,.pn x,re⟩::r) m h nx=match ev m x with
     |.ifc t v=>some (some (.ifc t v),m,h,nx)
     |_=>none:=rfl
 rw [e]
 cases ev m x<;>rfl
theorem Av6 {t:Nat} {v:FV}:pnV (.ifc t v)=some (.ifc t v):=rfl
theorem p_gd {op:O} {t:Nat} {c:Bool}:A1n cal id (⟨d,some (t,c),op,re⟩::r) m h nx =
  @B Bool (Option FV × Tm × Heap × Nat) (Ae3 (gt m t) c) ⟨fun b=>@If (Option (Option FV × Tm × Heap × Nat)) b ⟨A1n cal id (⟨d,none,op,re⟩::r) m h nx,A1n cal (id + 1) r (put m d (.tup [])) h nx⟩⟩:=by
 rw [← Aat]
 simp only [A1n]
 cases wanted m (some (t,c)) with
 |none=>rfl
 |some b=>cases b<;>rfl
end
theorem EV5:type_of% (And.intro @np_l <| And.intro @Aui <| And.intro @Aw8 <| And.intro @Axo <| And.intro @Awh <| And.intro @Au4 <| And.intro @Axu <| And.intro @Axm <| And.intro @Awt <| And.intro @Awu <| And.intro @Atj <| And.intro @Aw4 <| And.intro @Avm <| And.intro @Awl <| And.intro @Arj <| And.intro @Aqu <| And.intro @Aqt <| And.intro @Alv <|
 And.intro @r_sn <| And.intro @Atk <| And.intro @r_xa <| And.intro @Aty <| And.intro @r_cs <| And.intro @Auw <| And.intro @Ay4 <| And.intro @r_ta <| And.intro @Ay6 <| And.intro @Awr <| And.intro @Axe <| And.intro @Art <| And.intro @Arn <| And.intro @r_ib <| And.intro @Avf <|
 And.intro @cw_y <| And.intro @w_rf <| And.intro @Atz <| And.intro @Avd <| And.intro @Aq9 <| And.intro @w_rq <| And.intro @Au5 <| And.intro @Av0 <| And.intro @Atv <| And.intro @p_cl <| And.intro @Axj <| And.intro @Ava <| And.intro @p_pn <| And.intro @Av6 <| @p_gd):=And.intro @np_l <| And.intro @Aui <| And.intro @Aw8 <| And.intro @Axo <| And.intro @Awh <| And.intro @Au4 <| And.intro @Axu <| And.intro @Axm <| And.intro @Awt <| And.intro @Awu <| And.intro @Atj <| And.intro @Aw4 <| And.intro @Avm <| And.intro @Awl <| And.intro @Arj <| And.intro @Aqu <| And.intro @Aqt <| And.intro @Alv <|
 And.intro @r_sn <| And.intro @Atk <| And.intro @r_xa <| And.intro @Aty <| And.intro @r_cs <| And.intro @Auw <| And.intro @Ay4 <| And.intro @r_ta <| And.intro @Ay6 <| And.intro @Awr <| And.intro @Axe <| And.intro @Art <| And.intro @Arn <| And.intro @r_ib <| And.intro @Avf <|
 And.intro @cw_y <| And.intro @w_rf <| And.intro @Atz <| And.intro @Avd <| And.intro @Aq9 <| And.intro @w_rq <| And.intro @Au5 <| And.intro @Av0 <| And.intro @Atv <| And.intro @p_cl <| And.intro @Axj <| And.intro @Ava <| And.intro @p_pn <| And.intro @Av6 <| @p_gd
theorem EV6:type_of% (And.intro @Agy <| And.intro @Avj <| And.intro @Aue <| And.intro @Aup <| And.intro @Awa <| And.intro @Ats <| And.intro @Awb <| And.intro @Agn <| And.intro @Adc <| And.intro @Ak1 <| And.intro @ok_m <| And.intro @Awz <| And.intro @Ahc <| And.intro @Awi <| And.intro @Ar4 <| And.intro @Aju <| And.intro @Ar0 <| And.intro @Avr <| And.intro @Aw5 <| And.intro @Axz <| And.intro @Aw7 <| And.intro @Auf <| And.intro @Au9 <| And.intro @Atp <| And.intro @Ar6 <| And.intro @Ae2 <| And.intro @Acp <| And.intro @Ahh <| And.intro @Au8 <| And.intro @w_xe <| And.intro @Aw2 <| And.intro @Ax3 <| @Ay0):=And.intro @Agy <| And.intro @Avj <| And.intro @Aue <| And.intro @Aup <| And.intro @Awa <| And.intro @Ats <| And.intro @Awb <| And.intro @Agn <| And.intro @Adc <| And.intro @Ak1 <| And.intro @ok_m <| And.intro @Awz <| And.intro @Ahc <| And.intro @Awi <| And.intro @Ar4 <| And.intro @Aju <| And.intro @Ar0 <| And.intro @Avr <| And.intro @Aw5 <| And.intro @Axz <| And.intro @Aw7 <| And.intro @Auf <| And.intro @Au9 <| And.intro @Atp <| And.intro @Ar6 <| And.intro @Ae2 <| And.intro @Acp <| And.intro @Ahh <| And.intro @Au8 <| And.intro @w_xe <| And.intro @Aw2 <| And.intro @Ax3 <| @Ay0
end
end Go.FI
namespace Go.FI
theorem Akg:most=1099511627776:=rfl
theorem Am0:deep=1152921504606846976:=rfl
theorem EV7:type_of% (And.intro @Aww <| And.intro @Aux <| And.intro @ca_0 <| And.intro @ca_s <| And.intro @A2d <| And.intro @Acl <| And.intro @wrap64 <| And.intro @A2t <| And.intro @Aqa <| And.intro @Arq <| And.intro @Akg <| And.intro @Am0 <| And.intro @FV.bool.injEq <| @FV.int.injEq) :=
 And.intro @Aww <| And.intro @Aux <| And.intro @ca_0 <| And.intro @ca_s <| And.intro @A2d <| And.intro @Acl <| And.intro @wrap64 <| And.intro @A2t <| And.intro @Aqa <| And.intro @Arq <| And.intro @Akg <| And.intro @Am0 <| And.intro @FV.bool.injEq <| @FV.int.injEq
theorem EV8:type_of% (And.intro @List.map_cons.{0,0} <| And.intro @List.map_nil.{0,0} <| And.intro @List.length_cons.{0} <| And.intro @List.length_nil.{0} <| And.intro @List.getElem?_cons_zero.{0} <| And.intro @List.getElem?_cons_succ.{0} <| And.intro @if_true.{1} <| And.intro @if_false.{1} <| And.intro @List.all_cons.{0} <| And.intro @List.all_nil.{0} <| And.intro @Bool.and_self <| And.intro @Bool.and_true <| And.intro @Bool.true_and <| And.intro @beq_self_eq_true.{0} <| And.intro @Bool.not_true <| And.intro @Bool.not_false <| And.intro @decide_true <| And.intro @decide_false <| And.intro @eq_self.{1} <| And.intro @and_self <| And.intro @true_and <| @and_true) :=
 And.intro @List.map_cons.{0,0} <| And.intro @List.map_nil.{0,0} <| And.intro @List.length_cons.{0} <| And.intro @List.length_nil.{0} <| And.intro @List.getElem?_cons_zero.{0} <| And.intro @List.getElem?_cons_succ.{0} <| And.intro @if_true.{1} <| And.intro @if_false.{1} <| And.intro @List.all_cons.{0} <| And.intro @List.all_nil.{0} <| And.intro @Bool.and_self <| And.intro @Bool.and_true <| And.intro @Bool.true_and <| And.intro @beq_self_eq_true.{0} <| And.intro @Bool.not_true <| And.intro @Bool.not_false <| And.intro @decide_true <| And.intro @decide_false <| And.intro @eq_self.{1} <| And.intro @and_self <| And.intro @true_and <| @and_true
theorem EV9:type_of% (And.intro @List.drop_zero.{0} <| And.intro @List.drop_succ_cons.{0} <| And.intro @List.take_succ_cons.{0} <| And.intro @List.take_zero.{0} <| And.intro @List.take_nil.{0} <| And.intro @List.drop_nil.{0} <| And.intro @List.cons_append.{0} <| And.intro @List.nil_append.{0} <| And.intro @List.append_nil.{0} <| And.intro @Int.toNat_natCast <| And.intro @List.length_map.{0,0} <| And.intro @Nat.le_refl <| And.intro @Nat.zero_add <| And.intro @Nat.sub_zero <| And.intro @Nat.add_zero <| And.intro @List.replicate_succ.{0} <| And.intro @List.replicate_zero.{0} <| And.intro @List.set_cons_zero.{0} <| And.intro @List.set_cons_succ.{0} <| @Option.some.injEq.{0}) :=
 And.intro @List.drop_zero.{0} <| And.intro @List.drop_succ_cons.{0} <| And.intro @List.take_succ_cons.{0} <| And.intro @List.take_zero.{0} <| And.intro @List.take_nil.{0} <| And.intro @List.drop_nil.{0} <| And.intro @List.cons_append.{0} <| And.intro @List.nil_append.{0} <| And.intro @List.append_nil.{0} <| And.intro @Int.toNat_natCast <| And.intro @List.length_map.{0,0} <| And.intro @Nat.le_refl <| And.intro @Nat.zero_add <| And.intro @Nat.sub_zero <| And.intro @Nat.add_zero <| And.intro @List.replicate_succ.{0} <| And.intro @List.replicate_zero.{0} <| And.intro @List.set_cons_zero.{0} <| And.intro @List.set_cons_succ.{0} <| @Option.some.injEq.{0}
theorem EVL:type_of% (And.intro @List.length_append.{0} <| And.intro @List.length_map.{0,0} <| And.intro @List.length_cons.{0} <| And.intro @List.length_nil.{0} <| And.intro @List.length_replicate.{0} <| And.intro @List.length_drop.{0} <| @List.length_take.{0}) :=
 And.intro @List.length_append.{0} <| And.intro @List.length_map.{0,0} <| And.intro @List.length_cons.{0} <| And.intro @List.length_nil.{0} <| And.intro @List.length_replicate.{0} <| And.intro @List.length_drop.{0} <| @List.length_take.{0}
theorem EVS:type_of% (And.intro EV1 <| And.intro EV2 <| And.intro EV3 <| And.intro EV4 <| And.intro EV5 <| And.intro EV6 <| And.intro EV7 <| And.intro EV8 <| And.intro EV9 Atl):=And.intro EV1 <| And.intro EV2 <| And.intro EV3 <| And.intro EV4 <| And.intro EV5 <| And.intro EV6 <| And.intro EV7 <| And.intro EV8 <| And.intro EV9 Atl
end Go.FI
namespace Go.FI
section
variable {T:Tab}
theorem A6h {k k':Nat} (hk:k ≤ k') {l:List I} {m:Tm} {h:Heap} {nx:Nat} {x:Ex × Tm × Heap × Nat} (hx:run (call T k) k l m h nx=some x):run (call T k') k' l m h nx=some x :=
 A45 (A0u T k k' hk) k k' hk _ _ _ _ _ hx
theorem A7l {k k':Nat} (hk:k ≤ k') {i:Nat} {l:List G} {m:Tm} {h:Heap} {nx:Nat} {x:Tm × Heap × Nat} (hx:rops (np (call T k)) i l m h nx=some x):rops (np (call T k')) i l m h nx=some x :=
 A3n (A4o (A0u T k k' hk)) _ _ _ _ _ _ hx
theorem A6q {l:List I} {m:Tm} {h:Heap} {nx:Nat} {x:Ex × Tm × Heap × Nat} (hx:runs T l m h nx=some x):∃ k,run (call T k) k l m h nx=some x:=by
 obtain ⟨n,h4⟩:=A17.1 hx
 obtain ⟨k,_,h5⟩:=A55 n _ _ _ _ _ h4
 exact ⟨k,h5⟩
theorem Ag0:∀ (ps:List C) (m:Tm) (h:Heap) (nx:Nat) (x:Ex × Tm × Heap × Nat),A1q (runs T) ps m h nx=some x→∃ k,A1q (run (call T k) k) ps m h nx=some x:=by
 intro ps
 induction ps with
 |nil=>intro m h nx x hx;exact ⟨0,hx⟩
 |cons p ps ih =>
  intro m h nx x hx
  simp only [A1q] at hx
  obtain ⟨⟨ex,y⟩,h1,h2⟩:=A01 hx
  obtain ⟨k1,h1⟩:=A6q h1
  cases ex with
  |fin =>
   obtain ⟨k2,h3⟩:=ih _ _ _ _ h2
   refine ⟨max k1 k2,?_⟩
   simp only [A1q]
   refine A07 (A6h (by omega) h1) ?_
   exact A75 (fun l m h nx x hx=>A6h (by omega) hx) _ _ _ _ _ h3
  |ret=>exact ⟨k1,by simp only [A1q];exact A07 h1 h2⟩
  |xt=>exact ⟨k1,by simp only [A1q];exact A07 h1 h2⟩
  |pan=>exact ⟨k1,by simp only [A1q];exact A07 h1 h2⟩
theorem Aii {d:Mr} {e:FV × FV} {m:Tm} {h:Heap} {nx:Nat} {x:Tm × Heap × Nat} (hx:A6i (rops (np (lim T))) (runs T) d e m h nx=some x):∃ k,A6i (rops (np (call T k))) (run (call T k) k) d e m h nx=some x:=by
 unfold A6i at hx
 obtain ⟨y,h1,h2⟩:=A01 hx
 obtain ⟨z,h3,h4⟩:=A01 h2
 obtain ⟨k1,h1⟩:=A6b _ _ _ _ _ _ h1
 obtain ⟨k2,h3⟩:=A6q h3
 refine ⟨max k1 k2,?_⟩
 unfold A6i
 exact A07 (A7l (by omega) h1) (A07 (A6h (by omega) h3) h4)
theorem Amq {α:Type} {F:α→Option FV} {G:Nat→α→Option FV} (up:∀ k k' x r,k ≤ k'→G k x=some r→G k' x=some r):∀ {l:List α} {r:FV},(∀ x ∈ l,∀ r,F x=some r→∃ k,G k x=some r)→same (l.map F)=some r→∃ k,same (l.map (G k))=some r:=by
 intro l
 induction l with
 |nil=>intro r _ h;exact ⟨0,h⟩
 |cons x l ih =>
  intro r hfg h
  cases l with
  |nil =>
   simp only [List.map_cons,List.map_nil,same] at h ⊢
   exact hfg x (by simp) _ h
  |cons y l =>
   simp only [List.map_cons,same] at h ⊢
   obtain ⟨a,h1,h⟩:=A01 h
   obtain ⟨b,h2,h⟩:=A01 h
   obtain ⟨k1,h1⟩:=hfg x (by simp) _ h1
   obtain ⟨k2,h2⟩:=ih (fun z hz=>hfg z (by simp [hz])) h2
   refine ⟨max k1 k2,A07 (up _ _ _ _ (by omega) h1) (A07 (Agx (l:=y::l) (fun z _ r hr=>up _ _ _ _ (by omega) hr) h2) h)⟩
theorem Af9 {d:Mr} {iid:Nat}:∀ (c:Nat) (l:List (FV × FV)) (m:Tm) (h:Heap) (nx:Nat) (r:FV),A1l (rops (np (lim T))) (runs T) d iid c l m h nx=some r→∃ k,A1l (rops (np (call T k))) (run (call T k) k) d iid c l m h nx=some r:=by
 intro c
 induction c with
 |zero =>
  intro l m h nx r hx
  cases l with
  |nil =>
   simp only [A1l] at hx ⊢
   obtain ⟨h1,hx⟩:=A02 hx
   obtain ⟨y,h2,hx⟩:=A01 hx
   obtain ⟨k,h2⟩:=A6q h2
   refine ⟨k,?_⟩
   rw [chk,if_pos h1]
   exact A07 h2 hx
  |cons=>simp [A1l] at hx
 |succ c ih =>
  intro l m h nx r hx
  cases l with
  |nil =>
   simp only [A1l] at hx ⊢
   obtain ⟨h1,hx⟩:=A02 hx
   obtain ⟨y,h2,hx⟩:=A01 hx
   obtain ⟨k,h2⟩:=A6q h2
   refine ⟨k,?_⟩
   rw [chk,if_pos h1]
   exact A07 h2 hx
  |cons e es =>
   simp only [A1l] at hx ⊢
   obtain ⟨h1,hx⟩:=A02 hx
   have:=Amq (l:=Acg (e::es)) (F:=fun p=>bnd (A6i (rops (np (lim T))) (runs T) d p.1 (A0g m d.keep0) h nx) fun y=>A1l (rops (np (lim T))) (runs T) d iid c p.2 y.1 y.2.1 y.2.2)
    (G:=fun k p=>bnd (A6i (rops (np (call T k))) (run (call T k) k) d p.1 (A0g m d.keep0) h nx) fun y=>A1l (rops (np (call T k))) (run (call T k) k) d iid c p.2 y.1 y.2.1 y.2.2)
    (fun k k' x r hk hr=>by
     obtain ⟨y,h3,h4⟩:=A01 hr
     exact A07 (A8p (fun _ _ _ _ _ _ hx=>A7l hk hx) (fun _ _ _ _ _ hx=>A6h hk hx) h3) (A50 (fun _ _ _ _ _ _ hx=>A7l hk hx) (fun _ _ _ _ _ hx=>A6h hk hx) _ _ _ _ _ _ h4))
    (fun x _ r hr=>by
     obtain ⟨y,h3,h4⟩:=A01 hr
     obtain ⟨k1,h3⟩:=Aii h3
     obtain ⟨k2,h4⟩:=ih _ _ _ _ _ h4
     exact ⟨max k1 k2,A07 (A8p (fun _ _ _ _ _ _ hx=>A7l (by omega) hx) (fun _ _ _ _ _ hx=>A6h (by omega) hx) h3) (A50 (fun _ _ _ _ _ _ hx=>A7l (by omega) hx) (fun _ _ _ _ _ hx=>A6h (by omega) hx) _ _ _ _ _ _ h4)⟩) hx
   obtain ⟨k,hk⟩:=this
   exact ⟨k,by rw [chk,if_pos h1];exact hk⟩
theorem Aos {d:Mr} {args:List FV} {r:FV} (hx:mrV (rops (np (lim T))) (runs T) d args=some r):∃ k,mrV (rops (np (call T k))) (run (call T k) k) d args=some r:=by
 unfold mrV at hx
 obtain ⟨h1,hx⟩:=A02 hx
 obtain ⟨⟨ex,m1,h1',nx1⟩,h2,hx⟩:=A01 hx
 obtain ⟨k1,h2⟩:=Ag0 _ _ _ _ _ h2
 cases ex with
 |ret =>
  refine ⟨k1,?_⟩
  unfold mrV
  rw [chk,if_pos h1]
  exact A07 h2 hx
 |fin =>
  simp only at hx
  cases he:gt m1 d.mp with
  |map id =>
   rw [he] at hx
   simp only at hx
   cases hg:hget h1' id with
   |none=>rw [hg] at hx;cases hx
   |some o =>
    rw [hg] at hx
    cases o with
    |mp en =>
     obtain ⟨k2,hx⟩:=Af9 _ _ _ _ _ _ hx
     refine ⟨max k1 k2,?_⟩
     unfold mrV
     rw [chk,if_pos h1]
     refine A07 (A75 (fun _ _ _ _ _ hx=>A6h (by omega) hx) _ _ _ _ _ h2) ?_
     simp only [he,hg]
     exact A50 (fun _ _ _ _ _ _ hx=>A7l (by omega) hx) (fun _ _ _ _ _ hx=>A6h (by omega) hx) _ _ _ _ _ _ hx
    |_=>cases hx
  |_=>rw [he] at hx;cases hx
 |_=>cases hx
theorem Ay2 {f:Nat} {d:Mr} {args:List FV} {v:FV} (ht:tget T f=some (.mr d)) (hv:mrV (rops (np (lim T))) (runs T) d args=some v) (hlt:f < RB:=by decide) (h:Heap) (nx:Nat):lim T f args h nx=some (v,h,nx):=by
 obtain ⟨k,hk⟩:=Aos hv
 refine A3r.2 ⟨k + 1,?_⟩
 simp only [call,ht]
 rw [chk,if_pos hlt,A7v]
 exact A07 hk rfl
theorem Aou {α:Type} {F:α→Option FV} {v:FV}:∀ {l:List α},l ≠ []→(∀ x ∈ l,F x=some v)→same (l.map F)=some v:=by
 intro l
 induction l with
 |nil=>intro h _;exact absurd rfl h
 |cons x l ih =>
  intro _ h
  cases l with
  |nil=>simp only [List.map_cons,List.map_nil,same];exact h x (by simp)
  |cons y l =>
   simp only [List.map_cons,same]
   refine A07 (h x (by simp)) (A07 (ih (by simp) fun z hz=>h z (by simp [hz])) ?_)
   rw [if_pos (A54 v)]
theorem Aie {α:Type}:∀ (l:List α) (p:α × List α),p ∈ Acg l→(p.1::p.2).Perm l∧p.2.length + 1=l.length:=by
 intro l
 induction l with
 |nil=>intro p h;cases h
 |cons a r ih =>
  intro p h
  simp only [Acg,List.mem_cons,List.mem_map] at h
  rcases h with rfl | ⟨q,hq,rfl⟩
  ·exact ⟨List.Perm.refl _,rfl⟩
  ·obtain ⟨h1,h2⟩:=ih q hq
   exact ⟨(List.Perm.swap a q.1 q.2).trans (h1.cons a),by simp only [List.length_cons];omega⟩
theorem Ahp {ro:Ro} {rn:Rn} {d:Mr} {iid:Nat} {v:FV} {en:List (FV × FV)} (P:List (FV × FV)→Tm→Heap→Nat→Prop)
  (it:∀ dn m h nx,P dn m h nx→eqv (gt (A0g m d.keep0) d.it) (.ptr iid 1 0 0)=true)
  (step:∀ dn e rest m h nx,(dn ++ e::rest).Perm en→P dn m h nx→∃ y,A6i ro rn d e (A0g m d.keep0) h nx=some y∧P (dn ++ [e]) y.1 y.2.1 y.2.2)
  (fin:∀ dn m h nx,dn.Perm en→P dn m h nx→bnd (rn [.code d.post] (A0g m d.keep0) h nx) (resM d.res)=some v) :
  ∀ (c:Nat) (l dn:List (FV × FV)) (m:Tm) (h:Heap) (nx:Nat),l.length ≤ c→(dn ++ l).Perm en→P dn m h nx→A1l ro rn d iid c l m h nx=some v:=by
 intro c
 induction c with
 |zero =>
  intro l dn m h nx hl hp hP
  cases l with
  |nil =>
   simp only [A1l]
   rw [chk,if_pos (it _ _ _ _ hP)]
   exact fin dn m h nx (by simpa using hp) hP
  |cons e es=>simp at hl
 |succ c ih =>
  intro l dn m h nx hl hp hP
  cases l with
  |nil =>
   simp only [A1l]
   rw [chk,if_pos (it _ _ _ _ hP)]
   exact fin dn m h nx (by simpa using hp) hP
  |cons e es =>
   simp only [A1l]
   rw [chk,if_pos (it _ _ _ _ hP)]
   refine Aou (by simp [Acg]) fun p hpk=>?_
   obtain ⟨q1,q2⟩:=Aie _ p hpk
   have hperm:(dn ++ p.1::p.2).Perm en:=(List.Perm.append_left dn q1).trans hp
   obtain ⟨y,h1,h2⟩:=step dn p.1 p.2 m h nx hperm hP
   refine A07 h1 (ih p.2 (dn ++ [p.1]) y.1 y.2.1 y.2.2 ?_ (by simpa using hperm) h2)
   simp only [List.length_cons] at hl q2;omega
theorem Agw {p:C} {ps:List C} {m:Tm} {h:Heap} {nx:Nat} {q:Post Out} (hh:@Ok Out (runs T [.code p] m h nx) ⟨fun x=>match x.1 with | .fin=>@Ok Out (A1q (runs T) ps x.2.1 x.2.2.1 x.2.2.2) q | e=>q.q (e,x.2)⟩):@Ok Out (A1q (runs T) (p::ps) m h nx) q:=by
 obtain ⟨⟨ex,y⟩,h1,h2⟩:=hh
 cases ex with
 |fin =>
  obtain ⟨z,h3,h4⟩:=h2
  exact ⟨z,by simp only [A1q];exact A07 h1 h3,h4⟩
 |ret=>exact ⟨_,by simp only [A1q];exact A07 h1 rfl,h2⟩
 |xt e=>exact ⟨_,by simp only [A1q];exact A07 h1 rfl,h2⟩
 |pan e=>exact ⟨_,by simp only [A1q];exact A07 h1 rfl,h2⟩
theorem As2 {m:Tm} {h:Heap} {nx:Nat} {q:Post Out} (hh:q.q (.fin,m,h,nx)):@Ok Out (A1q (runs T) [] m h nx) q:=⟨_,rfl,hh⟩
theorem Az8 {d:Mr} {args:List FV} {v:FV} (hl:args.length=d.np) (hp:pures args=true)
  (hh:@Ok Out (A1q (runs T) d.pre (params 0 args) [] 0) ⟨fun x=>match x.1 with
   |.ret=>resM d.res (.ret,x.2)=some v
   |.fin=>∃ id en,gt x.2.1 d.mp=.map id∧hget x.2.2.1 id=some (.mp en)∧A1l (rops (np (lim T))) (runs T) d x.2.2.2 en.length en (put x.2.1 (some d.it) (.ptr x.2.2.2 1 0 0)) ((x.2.2.2,.mit)::hset x.2.2.1 id (.fmp en)) (x.2.2.2 + 1)=some v
   |_=>False⟩):mrV (rops (np (lim T))) (runs T) d args=some v:=by
 obtain ⟨⟨ex,m1,h1',nx1⟩,h1,h2⟩:=hh
 unfold mrV
 rw [chk,if_pos ⟨hl,hp⟩]
 refine A07 h1 ?_
 cases ex with
 |ret=>exact h2
 |fin =>
  obtain ⟨id,en,e1,e2,e3⟩:=h2
  simp only at e1 e2 e3 ⊢
  rw [e1]
  simp only
  rw [e2]
  exact e3
 |xt e=>exact h2.elim
 |pan e=>exact h2.elim
theorem Aqk {rs:List RV} {m:Tm} {h:Heap} {nx:Nat}:resM rs (.ret,m,h,nx)=@B (List FV) FV (A0x m h rs) ⟨fun vs=>frz h deep (result vs)⟩:=rfl
end
end Go.FI
namespace Go.FI
inductive Tm' where
 |mk (k w b:Int) (s:List UInt8) (lo:Int) (e:Bool) (l:List Tm')
abbrev Te:=Tm'
instance:Inhabited Tm':=⟨.mk 0 0 0 [] 0 true []⟩
namespace Tm'
def k:Te→Int | .mk k _ _ _ _ _ _=>k
def w:Te→Int | .mk _ w _ _ _ _ _=>w
def b:Te→Int | .mk _ _ b _ _ _ _=>b
def s:Te→List UInt8 | .mk _ _ _ s _ _ _=>s
def lo:Te→Int | .mk _ _ _ _ lo _ _=>lo
def e:Te→Bool | .mk _ _ _ _ _ e _=>e
def l:Te→List Te | .mk _ _ _ _ _ _ l=>l
theorem ind {p:Te→Prop} (h:∀ t,(∀ x ∈ t.l,p x)→p t) (t:Te):p t :=
 Tm'.rec (motive_1:=p) (motive_2:=fun l=>∀ x ∈ l,p x) (fun k w b s lo e l ih=>h (.mk k w b s lo e l) ih) (fun x hx=>nomatch hx)
  (fun a l ha hl x hx=>by
   rcases List.mem_cons.1 hx with rfl | hx
   ·exact ha
   ·exact hl x hx) t
end Tm'
mutual
def tV:Te→FV
 |.mk k w b s lo e l=>.agg [.int .u8 k,.int .i64 w,.int .u64 b,.str s,.int .i64 lo,.lst e (tVs l)]
def tVs:List Te→List FV
 |[]=>[]
 |t::l=>tV t::tVs l
end
theorem Asa (l:List Te):tVs l=l.map tV:=by
 induction l with
 |nil=>rfl
 |cons t l ih=>simp only [tVs,List.map_cons,ih]
theorem Aaz (t:Te):tV t=.agg [.int .u8 t.k,.int .i64 t.w,.int .u64 t.b,.str t.s,.int .i64 t.lo,.lst t.e (t.l.map tV)]:=by
 cases t with | mk k w b s lo e l=>simp only [tV,Asa,Tm'.k,Tm'.w,Tm'.b,Tm'.s,Tm'.lo,Tm'.e,Tm'.l]
theorem Ar2 {α:Type} {f:α→FV} {l:List α} (h:∀ x ∈ l,A0i (f x)=true):pures (l.map f)=true:=by
 induction l with
 |nil=>rfl
 |cons a l ih=>simp only [List.map_cons,pures,h a (by simp),ih fun x hx=>h x (by simp [hx]),Bool.and_self]
theorem Aqy {α:Type} {f:α→FV} {b:Nat} {l:List α} (h:∀ x ∈ l,low b (f x)=true):lows b (l.map f)=true:=by
 induction l with
 |nil=>rfl
 |cons a l ih=>simp only [List.map_cons,lows,h a (by simp),ih fun x hx=>h x (by simp [hx]),Bool.and_self]
theorem pu_T (t:Te):A0i (tV t)=true:=by
 induction t using Tm'.ind with | h t ih=>simp [Aaz t,A0i,pures,Ar2 ih]
theorem lo_T (b:Nat) (t:Te):low b (tV t)=true:=by
 induction t using Tm'.ind with | h t ih=>simp [Aaz t,low,lows,Aqy ih]
theorem A2m (l:List Te):pures (l.map tV)=true:=Ar2 fun x _=>pu_T x
theorem Ak4 (b:Nat) (l:List Te):lows b (l.map tV)=true:=Aqy fun x _=>lo_T b x
theorem Apz (l:List Te):(l.map tV).all FV.ok=true:=by
 simp only [List.all_map,List.all_eq_true,Function.comp_apply]
 intro x _;rw [Aaz];rfl
theorem Ao6 (l:List Te):((l.map tV).all fun v=>v.cells.length == 6)=true:=by
 simp only [List.all_map,List.all_eq_true,Function.comp_apply]
 intro x _;rw [Aaz];rfl
theorem gd_T {l:List Te} {i:Nat} {d:FV} (h:i < l.length):(l.map tV).getD i d=.agg [.int .u8 (l.getD i default).k,.int .i64 (l.getD i default).w,.int .u64 (l.getD i default).b,.str (l.getD i default).s,.int .i64 (l.getD i default).lo,.lst (l.getD i default).e ((l.getD i default).l.map tV)]:=by
 rw [← Aaz];simp [List.getD,h]
theorem ge_T {l:List Te} {i:Nat} (h:i < l.length):(l.map tV)[i]? = some (.agg [.int .u8 (l.getD i default).k,.int .i64 (l.getD i default).w,.int .u64 (l.getD i default).b,.str (l.getD i default).s,.int .i64 (l.getD i default).lo,.lst (l.getD i default).e ((l.getD i default).l.map tV)]):=by
 rw [← Aaz];simp [List.getD,h]
theorem A6t {α:Type} [Inhabited α] {l:List α} {i:Nat} (h:i < l.length):l.drop i=l.getD i default::l.drop (i + 1):=by
 rw [List.drop_eq_getElem_cons h];simp [List.getD,h]
theorem A0r {α:Type} {l:List α} {i:Nat} {d:α} (h:i < l.length):l.getD i d ∈ l:=by
 simp [List.getD,h]
theorem TL:type_of% (And.intro A2m <| And.intro Ak4 <| And.intro Apz <| And.intro Ao6 <| And.intro @gd_T @ge_T):=And.intro A2m <| And.intro Ak4 <| And.intro Apz <| And.intro Ao6 <| And.intro @gd_T @ge_T
mutual
def size:Te→Nat
 |.mk _ _ _ _ _ _ l=>1 + A4m l
def A4m:List Te→Nat
 |[]=>0
 |t::l=>size t + A4m l
end
mutual
def depth:Te→Nat
 |.mk _ _ _ _ _ _ l=>A24 l + 1
def A24:List Te→Nat
 |[]=>0
 |t::l=>max (depth t) (A24 l)
end
mutual
def A0k:Te→List Te
 |.mk k w b s lo e l=>.mk k w b s lo e l::A26 l
def A26:List Te→List Te
 |[]=>[]
 |t::l=>A0k t ++ A26 l
end
theorem size_eq (t:Te):size t=1 + A4m t.l:=by cases t;rfl
theorem A59 (t:Te):depth t=A24 t.l + 1:=by cases t;rfl
theorem A2y (t:Te):A0k t=t::A26 t.l:=by cases t;rfl
theorem A40 (t:Te) (l:List Te):A4m (t::l)=size t + A4m l:=rfl
theorem A5u (t:Te) (l:List Te):A24 (t::l)=max (depth t) (A24 l):=rfl
theorem A28 (t:Te) (l:List Te):A26 (t::l)=A0k t ++ A26 l:=rfl
theorem Adn {x:Te}:∀ {l:List Te},x ∈ l→size x ≤ A4m l:=by
 intro l
 induction l with
 |nil=>intro h;cases h
 |cons a l ih =>
  intro h
  rw [A40]
  rcases List.mem_cons.1 h with rfl | h
  ·omega
  ·have:=ih h;omega
theorem A53 {t x:Te} (h:x ∈ t.l):size x < size t:=by
 rw [size_eq t];have:=Adn h;omega
theorem Aac {x y:Te}:∀ {l:List Te},x ∈ l→y ∈ A0k x→y ∈ A26 l:=by
 intro l
 induction l with
 |nil=>intro h;cases h
 |cons a l ih =>
  intro h hy
  rw [A28,List.mem_append]
  rcases List.mem_cons.1 h with rfl | h
  ·exact .inl hy
  ·exact .inr (ih h hy)
theorem size_pos (t:Te):1 ≤ size t:=by rw [size_eq];omega
theorem Aa9 {x:Te}:∀ {l:List Te},x ∈ l→depth x ≤ A24 l:=by
 intro l
 induction l with
 |nil=>intro h;cases h
 |cons a l ih =>
  intro h
  rw [A5u]
  rcases List.mem_cons.1 h with rfl | h
  ·omega
  ·have:=ih h;omega
theorem Anp {n:Nat}:∀ {l:List Te},(∀ x ∈ l,depth x ≤ n)→A24 l ≤ n:=by
 intro l
 induction l with
 |nil=>intro _;exact Nat.zero_le _
 |cons a l ih =>
  intro h
  rw [A5u]
  have:=h a (by simp);have:=ih fun x hx=>h x (by simp [hx]);omega
theorem Aan (t:Te):depth t ≤ size t:=by
 induction t using Tm'.ind with | h t ih =>
 rw [A59,size_eq]
 have:=Anp (l:=t.l) (n:=A4m t.l) fun x hx=>Nat.le_trans (ih x hx) (Adn hx)
 omega
theorem A3i (l:List Te):l.length ≤ A4m l:=by
 induction l with
 |nil=>simp [A4m]
 |cons a l ih=>rw [A40,List.length_cons];have:=size_pos a;omega
theorem A3d (t:Te):(A0k t).length=size t:=by
 induction t using Tm'.ind with | h t ih =>
 rw [A2y,size_eq]
 have:∀ l:List Te,(∀ x ∈ l,(A0k x).length=size x)→(A26 l).length=A4m l:=by
  intro l
  induction l with
  |nil=>intro _;rfl
  |cons a l ihl=>intro h;rw [A28,List.length_append,h a (by simp),ihl fun x hx=>h x (by simp [hx])];rfl
 simp only [List.length_cons,this t.l ih];omega
theorem Ajg {t x:Te} (h:x ∈ A0k t):size x ≤ size t:=by
 induction t using Tm'.ind with | h t ih =>
 rw [A2y] at h
 rcases List.mem_cons.1 h with rfl | h
 ·exact Nat.le_refl _
 ·have:∀ l:List Te,(∀ y ∈ l,x ∈ A0k y→size x ≤ size y)→x ∈ A26 l→size x ≤ A4m l:=by
   intro l
   induction l with
   |nil=>intro _ h;cases h
   |cons a l ihl =>
    intro hy h
    rw [A28,List.mem_append] at h
    rw [A40]
    rcases h with h | h
    ·have:=hy a (by simp) h;omega
    ·have:=ihl (fun y hy'=>hy y (by simp [hy'])) h;omega
  have:=this t.l ih h
  rw [size_eq t];omega
theorem An9 {t x:Te} (h:x ∈ A0k t):x.l.length ≤ size t:=by
 have h1:=Ajg h;have h2:=A3i x.l;rw [size_eq] at h1;omega
theorem A3p (t:Te):t ∈ A0k t:=by rw [A2y];simp
theorem A3h {t x y:Te} (hx:x ∈ t.l) (hy:y ∈ A0k x):y ∈ A0k t:=by
 rw [A2y];exact List.mem_cons_of_mem _ (Aac hx hy)
mutual
def B0w:Te→Te→Bool
 |.mk k w b s lo _ l,.mk k' w' b' s' lo' _ l'=>decide (k=k') && decide (w=w') && decide (b=b') && (s == s') && decide (lo=lo') && Avk l l'
def Avk:List Te→List Te→Bool
 |[],[]=>true
 |a::l,b::m=>B0w a b && Avk l m
 |_,_=>false
end
def Ap4 (x:Te):Prop:=(0 ≤ x.k∧x.k < 256)∧(-9223372036854775808 ≤ x.w∧x.w ≤ 9223372036854775807)∧(0 ≤ x.b∧x.b < 18446744073709551616)∧x.s.length ≤ 9223372036854775807∧(-9223372036854775808 ≤ x.lo∧x.lo ≤ 9223372036854775807)∧x.l.length ≤ 9223372036854775807
def TOk (t:Te):Prop:=∀ x ∈ A0k t,Ap4 x
theorem TOk.sub {t x:Te} (h:TOk t) (hx:x ∈ t.l):TOk x:=fun y hy=>h y (A3h hx hy)
theorem TOk.self {t:Te} (h:TOk t):Ap4 t:=h t (A3p t)
theorem Aag {l:List Te} {i:Nat} (h:i < l.length):A4m (l.drop i)=size (l.getD i default) + A4m (l.drop (i + 1)):=by rw [A6t h,A40]
theorem A5x {l:List Te} {i:Nat} (h:i < l.length):A24 (l.drop i)=max (depth (l.getD i default)) (A24 (l.drop (i + 1))):=by rw [A6t h,A5u]
theorem Aa3 {l:List Te} {y:Te}:y ∈ A26 l ↔ ∃ x ∈ l,y ∈ A0k x:=by
 induction l with
 |nil=>simp [A26]
 |cons a l ih=>simp [A28,ih]
theorem Aco {p:Te→Prop} {t:Te}:(∀ x ∈ A0k t,p x) ↔ p t∧∀ x ∈ t.l,∀ y ∈ A0k x,p y:=by
 rw [A2y]
 constructor
 ·intro h;exact ⟨h t (by simp),fun x hx y hy=>h y (by simp [Aa3];exact .inr ⟨x,hx,hy⟩)⟩
 ·rintro ⟨h1,h2⟩ x hx
  rcases List.mem_cons.1 hx with rfl | hx
  ·exact h1
  ·obtain ⟨y,hy,hxy⟩:=Aa3.1 hx;exact h2 y hy x hxy
end Go.FI
namespace Go.FI
theorem Ahv {n:Int} (h:0 ≤ n):IntKind.u64.wrap n=n % 18446744073709551616:=by
 simp [IntKind.wrap,IntKind.bits,IntKind.signed]
theorem toNat_ofInt {a:Int} (h0:0 ≤ a) (h1:a < 18446744073709551616):(BitVec.ofInt 64 a).toNat=a.toNat:=by
 rw [BitVec.toNat_ofInt];omega
theorem Agp {a b:Int} (ha:0 ≤ a) (ha':a < 18446744073709551616) (hb:0 ≤ b) (hb':b < 18446744073709551616):band .u64 a b=((a.toNat &&& b.toNat:Nat):Int):=by
 have e:(BitVec.ofInt IntKind.u64.bits a &&& BitVec.ofInt IntKind.u64.bits b).toNat=a.toNat &&& b.toNat:=by
  rw [BitVec.toNat_and];rw [show IntKind.u64.bits=64 from rfl,toNat_ofInt ha ha',toNat_ofInt hb hb']
 unfold band
 rw [e]
 have:a.toNat &&& b.toNat ≤ a.toNat:=Nat.and_le_left
 rw [Ahv (by omega)];omega
theorem Asy {a b:Nat} (ha:a < 18446744073709551616) (hb:b < 18446744073709551616):a ||| b < 18446744073709551616:=Nat.or_lt_two_pow (n:=64) ha hb
theorem Afg {a b:Int} (ha:0 ≤ a) (ha':a < 18446744073709551616) (hb:0 ≤ b) (hb':b < 18446744073709551616):bor .u64 a b=((a.toNat ||| b.toNat:Nat):Int):=by
 have e:(BitVec.ofInt IntKind.u64.bits a ||| BitVec.ofInt IntKind.u64.bits b).toNat=a.toNat ||| b.toNat:=by
  rw [BitVec.toNat_or];rw [show IntKind.u64.bits=64 from rfl,toNat_ofInt ha ha',toNat_ofInt hb hb']
 unfold bor
 rw [e]
 have:=Asy (a:=a.toNat) (b:=b.toNat) (by omega) (by omega)
 rw [Ahv (by omega)];omega
theorem A1c (n:Nat):(0:Int) < 2 ^ n:=Int.pow_pos (by decide)
theorem A0j (n:Nat):((2 ^ n:Nat):Int)=2 ^ n:=by simp
theorem Aap {m n:Nat} (h:m ≤ n):(2:Int) ^ m ≤ 2 ^ n:=by
 rw [← A0j,← A0j];exact Int.ofNat_le.2 (Nat.pow_le_pow_right (by decide) h)
theorem Aer {n:Nat} (h:n ≤ 64):(2:Int) ^ n ≤ 18446744073709551616:=Aap h
theorem A9b {a:Int} {n:Nat} (ha:0 ≤ a) (ha':a < 18446744073709551616) (hn:n ≤ 64):band .u64 a (2 ^ n - 1)=a % 2 ^ n:=by
 have h1:=Aer hn
 have h2:=A1c n
 rw [Agp ha ha' (by omega) (by omega)]
 have e:((2:Int) ^ n - 1).toNat=2 ^ n - 1:=by
  rw [← A0j];omega
 rw [e,Nat.and_two_pow_sub_one_eq_mod]
 rw [Int.natCast_emod,A0j]
 congr 1;omega
theorem Aof {n:Nat} (h:n ≤ 64):shr .u64 18446744073709551615 (64 - (n:Int))=2 ^ n - 1:=by
 have:∀ n:Nat,n < 65→shr .u64 18446744073709551615 (64 - n)=2 ^ n - 1:=by decide +kernel
 exact this n (by omega)
theorem All {a:Int} {n:Nat} (ha:0 ≤ a) (hn:n ≤ 64):shr .u64 a n=((a.toNat >>> n:Nat):Int):=by
 unfold shr
 have:min ((n:Int).toNat) IntKind.u64.bits=n:=by rw [Int.toNat_natCast];exact Nat.min_eq_left hn
 rw [this,Nat.shiftRight_eq_div_pow,Int.natCast_ediv,A0j,Int.fdiv_eq_ediv_of_nonneg _ (by have:=A1c n;omega)]
 congr 1;omega
theorem Alz {a:Int} {n:Nat} (ha:0 ≤ a) (hn:n ≤ 64) (hb:a * 2 ^ n < 18446744073709551616):shl .u64 a n=((a.toNat <<< n:Nat):Int):=by
 unfold shl
 have:min ((n:Int).toNat) IntKind.u64.bits=n:=by rw [Int.toNat_natCast];exact Nat.min_eq_left hn
 have h0:0 ≤ a * 2 ^ n:=Int.mul_nonneg ha (by have:=A1c n;omega)
 rw [this,Ahv h0,Nat.shiftLeft_eq,Int.natCast_mul,A0j]
 rw [show ((a.toNat:Nat):Int)=a by omega]
 omega
end Go.FI
namespace Go.FI
def A20 {α β γ:Type} (g:α→γ→α ⊕ β):α→List γ→α ⊕ β
 |a,[]=>.inl a
 |a,x::xs=>match g a x with
  |.inl a'=>A20 g a' xs
  |.inr b=>.inr b
theorem Alc {α β γ:Type} (g:α→γ→α ⊕ β):∀ (xs ys:List γ) (a:α),A20 g a (xs ++ ys)=match A20 g a xs with
  |.inl a'=>A20 g a' ys
  |.inr b=>.inr b:=by
 intro xs
 induction xs with
 |nil=>intro ys a;rfl
 |cons x xs ih =>
  intro ys a
  simp only [List.cons_append,A20]
  cases g a x with
  |inl a'=>exact ih ys a'
  |inr b=>rfl
theorem Afc {γ:Type}:∀ (xs:List γ) (n:Int),A20 (β:=Empty) (fun n _=>.inl (n + 1)) n xs=.inl (n + xs.length):=by
 intro xs
 induction xs with
 |nil=>intro n;simp [A20]
 |cons x xs ih=>intro n;simp only [A20,ih,List.length_cons];congr 1;omega
theorem wrap_add (a b:Int):IntKind.i64.wrap (IntKind.i64.wrap a + b)=IntKind.i64.wrap (a + b):=by
 simp [IntKind.wrap,IntKind.bits,IntKind.signed]
 (repeat' split)<;>omega
def Fr (b0:Nat) (h h':Heap) (nx nx':Nat):Prop:=nx ≤ nx'∧∀ i,b0 ≤ i→i < nx→hget h' i=hget h i
theorem Fr.refl (b0:Nat) (h:Heap) (nx:Nat):Fr b0 h h nx nx:=⟨Nat.le_refl _,fun _ _ _=>rfl⟩
theorem Fr.trans {b0:Nat} {h h' h'':Heap} {nx nx' nx'':Nat} (h1:Fr b0 h h' nx nx') (h2:Fr b0 h' h'' nx' nx''):Fr b0 h h'' nx nx'' :=
 ⟨Nat.le_trans h1.1 h2.1,fun i hi hl=>by have:=h1.1;rw [h2.2 i hi (by omega),h1.2 i hi hl]⟩
def ResR {α β:Type} (b0:Nat) (h:Heap) (nx:Nat) (P:α→Heap→Prop) (Q:β→Heap→Prop) (r:FV × Heap × Nat):α ⊕ β→Prop
 |.inl a=>r.1=.bool true∧P a r.2.1∧Fr b0 h r.2.1 nx r.2.2
 |.inr b=>r.1=.bool false∧Q b r.2.1∧Fr b0 h r.2.1 nx r.2.2
def Asv {α:Type} (b0:Nat) (P:α→Heap→Prop):Prop:=∀ a h h',P a h→(∀ i,i < b0→hget h' i=hget h i)→P a h'
theorem Fr.ext {b0:Nat} {h h1 h':Heap} {nx nx1 nx':Nat} (h2:Fr b0 h1 h' nx1 nx') (hn:nx ≤ nx1) (he:∀ i,i < nx→hget h1 i=hget h i):Fr b0 h h' nx nx' :=
 ⟨Nat.le_trans hn h2.1,fun i hi hl=>by rw [h2.2 i hi (by omega),he i hl]⟩
theorem ResR.base {α β:Type} {b0:Nat} {h h1:Heap} {nx nx1:Nat} {P:α→Heap→Prop} {Q:β→Heap→Prop} {r:FV × Heap × Nat} {s:α ⊕ β} (hf:Fr b0 h h1 nx nx1) (hr:ResR b0 h1 nx1 P Q r s):ResR b0 h nx P Q r s:=by
 cases s with
 |inl a=>exact ⟨hr.1,hr.2.1,hf.trans hr.2.2⟩
 |inr b=>exact ⟨hr.1,hr.2.1,hf.trans hr.2.2⟩
theorem Fr.up {b0:Nat} {h h1:Heap} {nx nx1:Nat} (hn:nx ≤ nx1) (he:∀ i,i < nx→hget h1 i=hget h i):Fr b0 h h1 nx nx1:=⟨hn,fun i _ hl=>he i hl⟩
theorem A7a {α β:Type} {x:Option α} {f:α→Option β} {p q:α→β→Prop} (h:@Ok α x ⟨fun a=>@Ok β (f a) ⟨p a⟩⟩) (hq:∀ a b,p a b→q a b):@Ok α x ⟨fun a=>@Ok β (f a) ⟨q a⟩⟩:=by
 obtain ⟨a,h1,b,h2,h3⟩:=h
 exact ⟨a,h1,b,h2,hq a b h3⟩
theorem hgx {i j:Nat} {o:Obj} {h:Heap}:hget (hset h i o) j=if i=j then (hget h i).map (fun _=>o) else hget h j:=by
 split
 ·rename_i e;subst e
  cases hg:hget h i with
  |none =>
   have:∀ h:Heap,hget h i=none→hget (hset h i o) i=none:=by
    intro h
    induction h with
    |nil=>intro _;rfl
    |cons p h ih =>
     obtain ⟨k,v⟩:=p
     intro hh
     simp only [hget] at hh
     split at hh
     ·cases hh
     ·rename_i e;simp only [hset,if_neg e,hget];exact ih hh
   rw [this h hg];rfl
  |some q=>rw [A0z hg];rfl
 ·rename_i e;exact A04 e
theorem A1h {i:Nat} {o:Obj} {h:Heap}:hget (hset h i o) i=(hget h i).map (fun _=>o):=by rw [hgx,if_pos rfl]
abbrev Env0:=List (List UInt8 × Int)
def kvV (p:List UInt8 × Int):FV × FV:=(.str p.1,.int .i64 p.2)
def lkE:Env0→List UInt8→Option Int
 |[],_=>none
 |(n,w)::r,s=>if s=n then some w else lkE r s
theorem Arv (s:List UInt8):∀ en:Env0,FI.find 1 (.str s) (en.map kvV)=some ((lkE en s).map (.int .i64)):=by
 intro en
 induction en with
 |nil=>rfl
 |cons p en ih =>
  obtain ⟨n,w⟩:=p
  simp only [List.map_cons,kvV,FI.find,A7c,bnd,lkE]
  by_cases e:s=n
  ·simp [e]
  ·rw [if_neg (by simpa using e),if_neg e]
   exact ih
theorem B13 (s:List UInt8) (w:Int):∀ en:Env0,lkE en s=none→FI.update 1 (.str s) (.int .i64 w) (en.map kvV)=some ((en ++ [(s,w)]).map kvV):=by
 intro en
 induction en with
 |nil=>intro _;rfl
 |cons p en ih =>
  obtain ⟨n,v⟩:=p
  intro h
  simp only [lkE] at h
  by_cases e:s=n
  ·simp [e] at h
  ·simp only [if_neg e] at h
   have e':(s == n)=false:=by simpa using e
   simp only [List.map_cons,kvV,FI.update,A7c,bnd,List.cons_append]
   rw [if_neg (by simp [e'])]
   have:=ih h
   simp only [List.map_append,List.map_cons,List.map_nil,kvV] at this ⊢
   rw [this]
theorem B1j (s:List UInt8) (w:Int):∀ en:Env0,lkE en s=some w→FI.update 1 (.str s) (.int .i64 w) (en.map kvV)=some (en.map kvV):=by
 intro en
 induction en with
 |nil=>intro h;cases h
 |cons p en ih =>
  obtain ⟨n,v⟩:=p
  intro h
  simp only [lkE] at h
  by_cases e:s=n
  ·subst e;simp at h;subst h;simp [kvV,FI.update,A7c,bnd]
  ·simp only [if_neg e] at h
   have e':(s == n)=false:=by simpa using e
   simp only [List.map_cons,kvV,FI.update,A7c,bnd]
   rw [if_neg (by simp [e'])]
   have:=ih h
   rw [this]
def varG (en:Env0) (x:Te):Env0 ⊕ Unit :=
 if x.k=2 then match lkE en x.s with
  |none=>.inl (en ++ [(x.s,x.w)])
  |some w=>if w=x.w then .inl en else .inr ()
 else .inl en
def A4n (t:Te):Env0 ⊕ Unit:=A20 varG [] (A0k t)
def varL:List Te→Env0
 |[]=>[]
 |x::xs=>if x.k=2 then (x.s,x.w)::varL xs else varL xs
theorem Ap6:∀ xs ys:List Te,varL (xs ++ ys)=varL xs ++ varL ys:=by
 intro xs
 induction xs with
 |nil=>intro ys;rfl
 |cons x xs ih=>intro ys;simp only [List.cons_append,varL,ih];split<;>rfl
def Cons (L:Env0):Prop:=∀ s v w,(s,v) ∈ L→(s,w) ∈ L→v=w
theorem Cons.sub {L M:Env0} (h:Cons L) (hs:∀ p ∈ M,p ∈ L):Cons M:=fun s v w h1 h2=>h s v w (hs _ h1) (hs _ h2)
def Asm (en L:Env0):Prop:=∀ s w,lkE en s=some w ↔ (s,w) ∈ L
theorem As0 (s:List UInt8) (n:List UInt8) (w:Int):∀ en:Env0,lkE (en ++ [(n,w)]) s=match lkE en s with | some v=>some v | none=>if s=n then some w else none:=by
 intro en
 induction en with
 |nil=>simp only [List.nil_append,lkE]
 |cons p en ih =>
  obtain ⟨m,v⟩:=p
  simp only [List.cons_append,lkE]
  by_cases e:s=m
  ·rw [if_pos e,if_pos e]
  ·rw [if_neg e,if_neg e];exact ih
theorem Akz:∀ (xs:List Te) (en L:Env0),Cons L→Asm en L→match A20 varG en xs with
  |.inl en'=>Cons (L ++ varL xs)∧Asm en' (L ++ varL xs)
  |.inr _=>¬ Cons (L ++ varL xs):=by
 intro xs
 induction xs with
 |nil=>intro en L h1 h2;simp only [A20,varL,List.append_nil];exact ⟨h1,h2⟩
 |cons x xs ih =>
  intro en L h1 h2
  by_cases hk:x.k=2
  ·cases hl:lkE en x.s with
   |none =>
    have hg:varG en x=.inl (en ++ [(x.s,x.w)]):=by simp [varG,hk,hl]
    have hno:∀ w,(x.s,w) ∉ L:=fun w hw=>by have:=(h2 x.s w).2 hw;rw [hl] at this;cases this
    have:=ih (en ++ [(x.s,x.w)]) (L ++ [(x.s,x.w)]) (fun s v w hv hw=>by
     simp only [List.mem_append,List.mem_singleton,Prod.mk.injEq] at hv hw
     rcases hv with hv | ⟨rfl,rfl⟩<;>rcases hw with hw | ⟨e,rfl⟩
     ·exact h1 s v w hv hw
     ·subst e;exact absurd hv (hno v)
     ·exact absurd hw (hno w)
     ·rfl) (fun s w=>by
     rw [As0]
     simp only [List.mem_append,List.mem_singleton,Prod.mk.injEq]
     cases hs:lkE en s with
     |some v =>
      have hv:=(h2 s v).1 hs
      simp only [Option.some.injEq]
      constructor
      ·rintro rfl;exact .inl hv
      ·rintro (hw | ⟨rfl,rfl⟩)
       ·exact h1 s v w hv hw
       ·exact absurd hv (hno v)
     |none =>
      have hn:∀ w,(s,w) ∉ L:=fun w hw=>by have:=(h2 s w).2 hw;rw [hs] at this;cases this
      by_cases e:s=x.s
      ·simp only [e,if_true,Option.some.injEq]
       constructor
       ·rintro rfl;exact .inr ⟨trivial,rfl⟩
       ·rintro (hw | ⟨_,rfl⟩)
        ·exact absurd hw (hno w)
        ·rfl
      ·simp only [e,if_false]
       constructor
       ·intro h;cases h
       ·rintro (hw | ⟨h,_⟩)
        ·exact absurd hw (hn w)
        ·exact h.elim)
    simp only [A20,hg,varL,hk,if_true]
    rw [show L ++ (x.s,x.w)::varL xs=(L ++ [(x.s,x.w)]) ++ varL xs by simp]
    exact this
   |some w =>
    have hw:=(h2 x.s w).1 hl
    by_cases e:w=x.w
    ·have hg:varG en x=.inl en:=by simp [varG,hk,hl,e]
     have:=ih en (L ++ [(x.s,x.w)]) (h1.sub (fun p hp=>by
      simp only [List.mem_append,List.mem_singleton] at hp
      rcases hp with hp | rfl
      ·exact hp
      ·rw [← e];exact hw)) (fun s v=>by
      rw [h2]
      simp only [List.mem_append,List.mem_singleton,Prod.mk.injEq]
      constructor
      ·exact .inl
      ·rintro (h | ⟨rfl,rfl⟩)
       ·exact h
       ·rw [← e];exact hw)
     simp only [A20,hg,varL,hk,if_true]
     rw [show L ++ (x.s,x.w)::varL xs=(L ++ [(x.s,x.w)]) ++ varL xs by simp]
     exact this
    ·have hg:varG en x=.inr ():=by simp [varG,hk,hl,e]
     simp only [A20,hg,varL,hk,if_true]
     intro hc
     exact e (hc x.s w x.w (by simp [hw]) (by simp))
  ·have hg:varG en x=.inl en:=by simp [varG,hk]
   simp only [A20,hg,varL,hk,if_false]
   exact ih en L h1 h2
def A0d (t:Te):Env0:=varL (A0k t)
theorem A4c {t:Te} {en:Env0} (h:A4n t=.inl en):Cons (A0d t)∧Asm en (A0d t):=by
 have:=Akz (A0k t) [] [] (fun s v w h=>by cases h) (fun s w=>by simp [lkE])
 unfold A4n at h
 rw [h] at this
 simpa [A0d] using this
theorem Aoz {t:Te} (h:A4n t=.inr ()):¬ Cons (A0d t):=by
 have:=Akz (A0k t) [] [] (fun s v w h=>by cases h) (fun s w=>by simp [lkE])
 unfold A4n at h
 rw [h] at this
 simpa [A0d] using this
theorem A6c:∀ xs:List Te,(varL xs).length ≤ xs.length:=by
 intro xs
 induction xs with
 |nil=>exact Nat.le_refl _
 |cons x xs ih=>simp only [varL];split<;>simp only [List.length_cons]<;>omega
theorem Aj6 (t:Te):A0d t=(if t.k=2 then [(t.s,t.w)] else []) ++ varL (A26 t.l):=by
 unfold A0d;rw [A2y];simp only [varL];split<;>rfl
theorem Aik {l:List Te} {i:Nat} (h:i < l.length):varL (A26 (l.drop i))=A0d (l.getD i default) ++ varL (A26 (l.drop (i + 1))):=by
 rw [A6t h,A28,Ap6];rfl
end Go.FI
namespace Go.FI
mutual
def er:Te→Te
 |.mk k w b s lo _ l=>.mk k w b s lo false (ers l)
def ers:List Te→List Te
 |[]=>[]
 |t::l=>er t::ers l
end
theorem Asw (l:List Te):ers l=l.map er:=by
 induction l with
 |nil=>rfl
 |cons t l ih=>simp only [ers,List.map_cons,ih]
theorem Ax5 (t:Te):er t=.mk t.k t.w t.b t.s t.lo false (t.l.map er):=by cases t;simp only [er,Tm'.k,Tm'.w,Tm'.b,Tm'.s,Tm'.lo,Tm'.l,Asw]
mutual
def RpT (h:Heap) (a b:Nat):FV→Te→Prop
 |v,.mk k w bt s lo _ l=>∃ c,v=.agg [.int .u8 k,.int .i64 w,.int .u64 bt,.str s,.int .i64 lo,c]∧((∃ e,c=.lst e []∧l=[]) ∨ ∃ id xs,c=.sref 6 id l.length 0 l.length∧a ≤ id∧id < b∧hget h id=some (.row 6 xs)∧RpL h a b xs l)
def RpL (h:Heap) (a b:Nat):List FV→List Te→Prop
 |[],[]=>True
 |x::xs,t::l=>RpT h a b x t∧RpL h a b xs l
 |_,_=>False
end
def RpS (h:Heap) (a b:Nat) (c:FV) (l:List Te):Prop:=(∃ e,c=.lst e []∧l=[]) ∨ ∃ id xs,c=.sref 6 id l.length 0 l.length∧a ≤ id∧id < b∧hget h id=some (.row 6 xs)∧RpL h a b xs l
theorem Aav {h:Heap} {a b:Nat} {v:FV} {t:Te}:RpT h a b v t ↔ ∃ c,v=.agg [.int .u8 t.k,.int .i64 t.w,.int .u64 t.b,.str t.s,.int .i64 t.lo,c]∧RpS h a b c t.l:=by
 cases t;simp only [RpT,RpS,Tm'.k,Tm'.w,Tm'.b,Tm'.s,Tm'.lo,Tm'.l]
theorem RpL.length {h:Heap} {a b:Nat}:∀ {xs:List FV} {l:List Te},RpL h a b xs l→xs.length=l.length:=by
 intro xs
 induction xs with
 |nil=>intro l hl;cases l with | nil=>rfl | cons=>exact hl.elim
 |cons x xs ih=>intro l hl;cases l with | nil=>exact hl.elim | cons t l=>simp [ih hl.2]
theorem RpL.mono' {h h':Heap} {a b a' b':Nat}:∀ {l:List Te},(∀ t ∈ l,∀ v,RpT h a b v t→RpT h' a' b' v t)→∀ {xs:List FV},RpL h a b xs l→RpL h' a' b' xs l:=by
 intro l
 induction l with
 |nil=>intro _ xs hl;cases xs with | nil=>trivial | cons=>exact hl.elim
 |cons t l ih=>intro ht xs hl;cases xs with | nil=>exact hl.elim | cons x xs=>exact ⟨ht t (by simp) x hl.1,ih (fun t' h'=>ht t' (by simp [h'])) hl.2⟩
theorem RpT.mono {h h':Heap} {a b a' b':Nat} (ha:a' ≤ a) (hb:b ≤ b') (hh:∀ i,a ≤ i→i < b→hget h' i=hget h i) {t:Te}:∀ {v:FV},RpT h a b v t→RpT h' a' b' v t:=by
 induction t using Tm'.ind with | h t ih =>
 intro v hv
 obtain ⟨c,h1,hc⟩:=Aav.1 hv
 refine Aav.2 ⟨c,h1,?_⟩
 rcases hc with hc | ⟨id,xs,h1,h2,h3,h4,h5⟩
 ·exact .inl hc
 ·exact .inr ⟨id,xs,h1,by omega,by omega,by rw [hh id h2 h3];exact h4,RpL.mono' (fun x hx v hv=>ih x hx hv) h5⟩
theorem RpL.mono {h h':Heap} {a b a' b':Nat} (ha:a' ≤ a) (hb:b ≤ b') (hh:∀ i,a ≤ i→i < b→hget h' i=hget h i) {xs:List FV} {l:List Te} (hl:RpL h a b xs l):RpL h' a' b' xs l :=
 RpL.mono' (fun _ _ _ hv=>hv.mono ha hb hh) hl
theorem RpS.mono {h h':Heap} {a b a' b':Nat} (ha:a' ≤ a) (hb:b ≤ b') (hh:∀ i,a ≤ i→i < b→hget h' i=hget h i) {c:FV} {l:List Te} (hl:RpS h a b c l):RpS h' a' b' c l:=by
 rcases hl with hc | ⟨id,xs,h1,h2,h3,h4,h5⟩
 ·exact .inl hc
 ·exact .inr ⟨id,xs,h1,by omega,by omega,by rw [hh id h2 h3];exact h4,h5.mono ha hb hh⟩
theorem A34 {h:Heap} {n:Nat} {v v':FV} {r r':List FV} (h1:frz h n v=some v') (h2:frzs h n r=some r'):frzs h (n + 1) (v::r)=some (v'::r'):=by rw [Ati,h1,A12,h2,A12]
theorem RpL.frz' {h:Heap} {a b:Nat}:∀ {l:List Te},(∀ t ∈ l,∀ v n,RpT h a b v t→10 * size t ≤ n→∃ t',er t'=er t∧frz h n v=some (tV t'))→∀ {xs:List FV} {n:Nat},RpL h a b xs l→10 * A4m l + 1 ≤ n→∃ l':List Te,l'.map er=l.map er∧frzs h n xs=some (l'.map tV):=by
 intro l
 induction l with
 |nil=>intro _ xs n hl _;cases xs with | nil=>exact ⟨[],rfl,As5⟩ | cons=>exact hl.elim
 |cons t l ih =>
  intro ht xs n hl hn
  cases xs with
  |nil=>exact hl.elim
  |cons x xs =>
   rw [A40] at hn
   have:=size_pos t
   obtain ⟨m,rfl⟩:∃ m,n=m + 1:=⟨n - 1,by omega⟩
   obtain ⟨t',e1,h1⟩:=ht t (by simp) x m hl.1 (by omega)
   obtain ⟨l',e2,h2⟩:=ih (fun t' h'=>ht t' (by simp [h'])) (n:=m) hl.2 (by omega)
   exact ⟨t'::l',by simp [e1,e2],A34 h1 h2⟩
theorem RpT.frz {h:Heap} {a b:Nat} {t:Te}:∀ {v:FV} {n:Nat},RpT h a b v t→10 * size t ≤ n→∃ t',er t'=er t∧FI.frz h n v=some (tV t'):=by
 induction t using Tm'.ind with | h t ih =>
 intro v n hv hn
 obtain ⟨c,rfl,hc⟩:=Aav.1 hv
 rw [size_eq] at hn
 obtain ⟨m,rfl⟩:∃ m,n=m + 8:=⟨n - 8,by omega⟩
 have key:∀ (e:Bool) (l':List Te),l'.map er=t.l.map er→FI.frz h (m + 1) c=some (.lst e (l'.map tV))→∃ t',er t'=er t∧FI.frz h (m + 8) (.agg [.int .u8 t.k,.int .i64 t.w,.int .u64 t.b,.str t.s,.int .i64 t.lo,c])=some (tV t'):=by
  intro e l' h1 h2
  have e3:tV (.mk t.k t.w t.b t.s t.lo e l')=.agg [.int .u8 t.k,.int .i64 t.w,.int .u64 t.b,.str t.s,.int .i64 t.lo,.lst e (l'.map tV)]:=by rw [Aaz];rfl
  have e4:er (.mk t.k t.w t.b t.s t.lo e l')=er t:=by
   rw [Ax5 t,Ax5,← h1];rfl
  refine ⟨.mk t.k t.w t.b t.s t.lo e l',e4,?_⟩
  rw [e3]
  rw [show m + 8=(m + 7) + 1 from rfl,Anc (by simp),A34 (v':=.int .u8 t.k) (r':=[.int .i64 t.w,.int .u64 t.b,.str t.s,.int .i64 t.lo,.lst e (l'.map tV)]) A74]
  ·rfl
  rw [show m + 6=(m + 5) + 1 from rfl]
  refine A34 A74 ?_
  rw [show m + 5=(m + 4) + 1 from rfl]
  refine A34 A74 ?_
  rw [show m + 4=(m + 3) + 1 from rfl]
  refine A34 Agf ?_
  rw [show m + 3=(m + 2) + 1 from rfl]
  refine A34 A74 ?_
  rw [show m + 2=(m + 1) + 1 from rfl]
  exact A34 h2 (by cases m<;>rfl)
 rcases hc with ⟨e,rfl,hl⟩ | ⟨id,xs,rfl,h2,h3,h4,h5⟩
 ·exact key e [] (by rw [hl]) (A2e rfl)
 ·obtain ⟨l',e2,hx⟩:=RpL.frz' (n:=m) (fun x hx v n hv hn=>ih x hx hv hn) h5 (by omega)
  have hlen:=h5.length
  refine key false l' e2 ?_
  rw [Aa0 (by decide),el_r,h4,A7d,A2d ⟨hlen,by omega⟩,A12,Aio]
  have e:List.take (0 + t.l.length - 0) (List.drop 0 xs)=xs:=by rw [List.drop_zero];exact List.take_of_length_le (by omega)
  rw [e,hx,A12]
theorem RpS.frz {h:Heap} {a b:Nat} {c:FV} {l:List Te} (hc:RpS h a b c l) {n:Nat} (hn:10 * A4m l + 2 ≤ n):∃ v,FI.frz h n c=some v∧∃ (e:Bool) (l':List Te),l'.map er=l.map er∧v=.lst e (l'.map tV):=by
 obtain ⟨m,rfl⟩:∃ m,n=m + 1:=⟨n - 1,by omega⟩
 rcases hc with ⟨e,rfl,hl⟩ | ⟨id,xs,rfl,h2,h3,h4,h5⟩
 ·exact ⟨_,A2e rfl,e,[],by rw [hl],rfl⟩
 ·obtain ⟨l',e2,hx⟩:=RpL.frz' (n:=m) (fun x hx v n hv hn=>hv.frz hn) h5 (by omega)
  have hlen:=h5.length
  refine ⟨_,?_,false,l',e2,rfl⟩
  rw [Aa0 (by decide),el_r,h4,A7d,A2d ⟨hlen,by omega⟩,A12,Aio]
  have e:List.take (0 + l.length - 0) (List.drop 0 xs)=xs:=by rw [List.drop_zero];exact List.take_of_length_le (by omega)
  rw [e,hx,A12]
def Ext (h h':Heap) (nx nx':Nat):Prop:=nx ≤ nx'∧∀ i,i < nx→hget h' i=hget h i
theorem Ext.refl (h:Heap) (nx:Nat):Ext h h nx nx:=⟨Nat.le_refl _,fun _ _=>rfl⟩
theorem Ext.trans {h h' h'':Heap} {nx nx' nx'':Nat} (h1:Ext h h' nx nx') (h2:Ext h' h'' nx' nx''):Ext h h'' nx nx'' :=
 ⟨Nat.le_trans h1.1 h2.1,fun i hi=>by have:=h1.1;rw [h2.2 i (by omega),h1.2 i hi]⟩
theorem take_succ {α:Type} [Inhabited α] {l:List α} {i:Nat} (h:i < l.length):l.take (i + 1)=l.take i ++ [l.getD i default]:=by
 rw [List.take_add_one];simp [List.getD,h]
end Go.FI
namespace Go.FI
mutual
def putT (n:List UInt8) (u:Te):Te→Te
 |.mk k w b s lo e l=>if k=2∧s=n then u else .mk k w b s lo false (putL n u l)
def putL (n:List UInt8) (u:Te):List Te→List Te
 |[]=>[]
 |t::l=>putT n u t::putL n u l
end
theorem RpL.get {h:Heap} {a b:Nat}:∀ {xs:List FV} {l:List Te},RpL h a b xs l→∀ j,j < l.length→∃ a0 a1 a2 a3 a4 a5,xs[j]? = some (.agg [a0,a1,a2,a3,a4,a5]):=by
 intro xs
 induction xs with
 |nil=>intro l hl j hj;cases l with | nil=>simp at hj | cons=>exact hl.elim
 |cons x xs ih =>
  intro l hl j hj
  cases l with
  |nil=>exact hl.elim
  |cons t l =>
   cases j with
   |zero=>obtain ⟨c,rfl,_⟩:=Aav.1 hl.1;exact ⟨_,_,_,_,_,_,rfl⟩
   |succ j=>exact ih hl.2 j (by simpa using hj)
end Go.FI
namespace Go.FI
open Go.Sort
abbrev Bd:=List UInt8 × Int
def bS (p:Bd):FV:=.agg [.str p.1,.int .i64 p.2,.int .u64 0]
def rowB (d:Array Bd):Obj:=.row 3 (d.toList.map bS)
def ltB (p q:Bd):Bool:=decide (Go.Lib.compareBytes p.1 q.1 < 0)
theorem A1d {p q:Bd}:decide (Go.Lib.compareBytes p.1 q.1 < 0)=ltB p q:=rfl
theorem Ali {d:Array Bd} {i:Nat} (h:i < d.size):(d.toList.map bS)[i]? = some (.agg [.str d[i]!.1,.int .i64 d[i]!.2,.int .u64 0]):=by
 simp [List.getElem?_map,h,bS]
theorem A38 {d:Array Bd}:(d.toList.map bS).length=d.size:=by simp
theorem Ar9 {d:Array Bd} {i:Nat} {x:Bd}:(d.toList.map bS).set i (.agg [.str x.1,.int .i64 x.2,.int .u64 0])=(d.setIfInBounds i x).toList.map bS:=by
 rw [Array.toList_setIfInBounds,List.map_set];rfl
theorem Aqc {d:Array Bd} {i j:Nat}:(d.setIfInBounds i d[j]!).setIfInBounds j d[i]! = swp d i j:=rfl
theorem An2 {d:Array Bd} {i:Nat} {x:Bd}:(d.setIfInBounds i x).size=d.size:=Array.size_setIfInBounds
theorem A1s {d:Array Bd} {i j:Nat}:(swp d i j).size=d.size:=by simp [swp]
theorem Akc {d:Array Bd} {i k:Nat} {x:Bd} (h:i < d.size):((d.setIfInBounds k x).toList.map bS)[i]? = some (.agg [.str (d.setIfInBounds k x)[i]!.1,.int .i64 (d.setIfInBounds k x)[i]!.2,.int .u64 0]):=Ali (by rw [An2];exact h)
theorem A1u {d:Array Bd}:rowB d=.row 3 (d.toList.map bS):=rfl
theorem SR:type_of% (And.intro @Ali <| And.intro @Akc <| And.intro @A38 <| And.intro @Ar9 <| And.intro @Aqc <| And.intro @An2 <| And.intro @A1s <| And.intro @Array.length_toList.{0} <| And.intro @A1h <| @Option.map_some.{0,0}):=And.intro @Ali <| And.intro @Akc <| And.intro @A38 <| And.intro @Ar9 <| And.intro @Aqc <| And.intro @An2 <| And.intro @A1s <| And.intro @Array.length_toList.{0} <| And.intro @A1h <| @Option.map_some.{0,0}
def RowR (h:Heap) (id:Nat) (d:Array Bd) (h':Heap):Prop:=hget h' id=some (rowB d)∧∀ i,i ≠ id→hget h' i=hget h i
theorem RowR.refl {h:Heap} {id:Nat} {d:Array Bd} (hr:hget h id=some (rowB d)):RowR h id d h:=⟨hr,fun _ _=>rfl⟩
theorem RowR.trans {h h1 h2:Heap} {id:Nat} {d d':Array Bd} (h1':RowR h id d h1) (h2':RowR h1 id d' h2):RowR h id d' h2:=⟨h2'.1,fun i hi=>(h2'.2 i hi).trans (h1'.2 i hi)⟩
theorem RowR.one {h:Heap} {id:Nat} {d:Array Bd} {o:Obj} (hr:hget h id=some o):RowR h id d (hset h id (rowB d)):=⟨A0z hr,fun i hi=>A04 (Ne.symm hi)⟩
theorem na (a b:Nat):((a:Nat):Int) + ((b:Nat):Int)=((a + b:Nat):Int):=rfl
theorem na1 (a:Nat):((a:Nat):Int) + 1=((a + 1:Nat):Int):=rfl
theorem nm2 (a:Nat):2 * ((a:Nat):Int)=((2 * a:Nat):Int):=rfl
theorem nle (a b:Nat):decide (((a:Nat):Int) ≤ ((b:Nat):Int))=decide (a ≤ b):=by simp
theorem nlt (a b:Nat):decide (((a:Nat):Int) < ((b:Nat):Int))=decide (a < b):=by simp
theorem NA:type_of% (And.intro na <| And.intro na1 <| And.intro nm2 <| And.intro nle <| nlt):=And.intro na <| And.intro na1 <| And.intro nm2 <| And.intro nle <| nlt
def RowN (id:Nat) (d:Array Bd) (h:Heap) (nx:Nat) (h':Heap) (nx':Nat):Prop:=hget h' id=some (rowB d)∧nx ≤ nx'∧∀ i,i < nx→i ≠ id→hget h' i=hget h i
theorem RowR.n {h h':Heap} {id nx nx':Nat} {d:Array Bd} (hr:RowR h id d h') (hn:nx ≤ nx'):RowN id d h nx h' nx':=⟨hr.1,hn,fun i _ hi=>hr.2 i hi⟩
theorem Ac5 {lt:Bd→Bd→Bool} {a:Nat}:∀ {j:Nat} {d:Array Bd},(Go.Sort.insInner lt a j d).size=d.size:=by
 intro j
 induction j with
 |zero=>intro d;rfl
 |succ j ih=>intro d;rw [Go.Sort.insInner];split<;>simp [ih,A1s]
section
variable {lt:Bd→Bd→Bool} {hi F root:Nat} {d:Array Bd}
theorem Ahb (h:hi ≤ 2 * root + 1):Go.Sort.siftDown lt hi F root d=d:=by rw [Go.Sort.siftDown,dif_pos h]
theorem A5y (h:¬ hi ≤ 2 * root + 1) (c:Nat) (hc:c=if 2 * root + 1 + 1 < hi∧lt d[F + (2 * root + 1)]! d[F + (2 * root + 1) + 1]! = true then 2 * root + 1 + 1 else 2 * root + 1) :
  Go.Sort.siftDown lt hi F root d=if lt d[F + root]! d[F + c]! = true then Go.Sort.siftDown lt hi F c (Go.Sort.swp d (F + root) (F + c)) else d:=by
 rw [Go.Sort.siftDown,dif_neg (by omega)]
 by_cases h1:2 * root + 1 + 1 < hi∧lt d[F + (2 * root + 1)]! d[F + (2 * root + 1) + 1]! = true
 ·rw [if_pos h1] at hc
  subst hc
  rw [if_pos (by simp only [Bool.and_eq_true,decide_eq_true_eq];exact h1),show 2 * root + 2=2 * root + 1 + 1 from rfl,dif_pos h1.1]
  cases lt d[F + root]! d[F + (2 * root + 1 + 1)]! <;> rfl
 ·rw [if_neg h1] at hc
  subst hc
  rw [if_neg (by simp only [Bool.and_eq_true,decide_eq_true_eq];exact h1)]
  cases lt d[F + root]! d[F + (2 * root + 1)]! <;> rfl
theorem A6m:∀ (k root:Nat) (d:Array Bd),hi - root ≤ k→(Go.Sort.siftDown lt hi F root d).size=d.size:=by
 intro k
 induction k with
 |zero=>intro root d hk;rw [Ahb (by omega)]
 |succ k ih =>
  intro root d hk
  by_cases hc:hi ≤ 2 * root + 1
  ·rw [Ahb hc]
  ·have key:∀ c,c=2 * root + 1 ∨ c=2 * root + 1 + 1→(if lt d[F + root]! d[F + c]! = true then Go.Sort.siftDown lt hi F c (Go.Sort.swp d (F + root) (F + c)) else d).size=d.size:=by
    intro c hc'
    split
    ·rw [ih _ _ (by omega),A1s]
    ·rfl
   rw [A5y hc _ rfl]
   exact key _ (by split<;>simp)
end
theorem A25 {T:Tab} {f:Nat} {d:Fn} {args:List FV} {h:Heap} {nx:Nat} {P:FV × Heap × Nat→Prop} (ht:tget T f=some (.fn d)) (hm:d.mode=.shr) (hn:args.length=d.np)
  (hh:@Ok Out (runs T [.code d.body] (params 0 args) h nx) ⟨fun x=>@Ok FV (finV d.res x) ⟨fun v=>P (v,x.2.2.1,x.2.2.2)⟩⟩) (hlt:f < RB:=by decide):∃ r,lim T f args h nx=some r∧P r:=by
 rw [Ab1 ht hm hn hlt]
 obtain ⟨x,h1,v,h2,h3⟩:=hh
 exact ⟨(v,x.2.2.1,x.2.2.2),by rw [h1,A12,h2,A12],h3⟩
def CntR (h:Heap) (q:Nat) (h':Heap):Prop:=(∃ s:Int,hget h' q=some (.row 1 [.int .i64 s]))∧∀ i,i ≠ q→hget h' i=hget h i
theorem CntR.trans {h h1 h2:Heap} {q:Nat} (a:CntR h q h1) (b:CntR h1 q h2):CntR h q h2:=⟨b.1,fun i hi=>(b.2 i hi).trans (a.2 i hi)⟩
theorem A63 {p:Bd→Bool} {d:Array Bd} {j i:Nat}:Go.Sort.scanUp p d j i ≤ i ∨ Go.Sort.scanUp p d j i ≤ j + 1:=by
 by_cases h:i ≤ j + 1
 ·exact .inr ((Go.Sort.scanUp_spec p d j _ i rfl).2.1 h)
 ·rw [Go.Sort.scanUp,if_neg (by simp;omega)];exact .inl (Nat.le_refl _)
theorem Abk {p:Bd→Bool} {d:Array Bd} {i j:Nat} (h:i ≤ j) (hp:p d[i]! = true):Go.Sort.scanUp p d j i=Go.Sort.scanUp p d j (i + 1):=by
 rw [Go.Sort.scanUp,if_pos (by simp only [hp,Bool.and_true,decide_eq_true_eq];exact h)]
theorem Abe {p:Bd→Bool} {d:Array Bd} {i j:Nat} (hp:p d[i]! = false):Go.Sort.scanUp p d j i=i:=by
 rw [Go.Sort.scanUp,if_neg (by simp [hp])]
theorem A52 {p:Bd→Bool} {d:Array Bd} {i j:Nat} (h:¬ i ≤ j):Go.Sort.scanUp p d j i=i:=by
 rw [Go.Sort.scanUp,if_neg (by simp;omega)]
theorem A72 {p:Bd→Bool} {d:Array Bd} {i j:Nat} (h:i ≤ j + 1) (hp:p d[j + 1]! = true):Go.Sort.scanDown p d i (j + 1)=Go.Sort.scanDown p d i j:=by
 rw [Go.Sort.scanDown,if_pos (by simp only [hp,Bool.and_true,decide_eq_true_eq];exact h)]
theorem A7b {p:Bd→Bool} {d:Array Bd} {i j:Nat} (hp:p d[j]! = false):Go.Sort.scanDown p d i j=j:=by
 cases j with
 |zero=>rfl
 |succ j=>rw [Go.Sort.scanDown,if_neg (by simp [hp])]
theorem A3f {p:Bd→Bool} {d:Array Bd} {i j:Nat} (h:¬ i ≤ j):Go.Sort.scanDown p d i j=j:=by
 cases j with
 |zero=>rfl
 |succ j=>rw [Go.Sort.scanDown,if_neg (by simp;omega)]
theorem RowN.trans {id:Nat} {d d':Array Bd} {h h1 h2:Heap} {nx nx1 nx2:Nat} (a:RowN id d h nx h1 nx1) (b:RowN id d' h1 nx1 h2 nx2):RowN id d' h nx h2 nx2 :=
 ⟨b.1,Nat.le_trans a.2.1 b.2.1,fun i hi hne=>(b.2.2 i (Nat.lt_of_lt_of_le hi a.2.1) hne).trans (a.2.2 i hi hne)⟩
theorem RowN.up {id:Nat} {d:Array Bd} {h h1:Heap} {nx nx0 nx1 nx2:Nat} (a:RowN id d h nx h1 nx1) (h0:nx0 ≤ nx) (h2:nx1 ≤ nx2):RowN id d h nx0 h1 nx2 :=
 ⟨a.1,by have:=a.2.1;omega,fun i hi hne=>a.2.2 i (by omega) hne⟩
theorem RowN.refl {id:Nat} {d:Array Bd} {h:Heap} {nx nx':Nat} (hr:hget h id=some (rowB d)) (hn:nx ≤ nx'):RowN id d h nx h nx':=⟨hr,hn,fun _ _ _=>rfl⟩
end Go.FI
namespace Go.FI
open Go.Sort (PermIn SortedIn Below SWO)
theorem Aqp (a:List UInt8):Go.Lib.compareBytes a a=0:=by
 induction a with
 |nil=>rfl
 |cons x a ih=>simp [Go.Lib.compareBytes,UInt8.lt_irrefl,ih]
theorem Ab5:∀ a b c:List UInt8,Go.Lib.compareBytes a b < 0→Go.Lib.compareBytes b c < 0→Go.Lib.compareBytes a c < 0:=by
 intro a
 induction a with
 |nil=>intro b c h1 h2;cases b<;>cases c<;>simp_all [Go.Lib.compareBytes]
 |cons x a ih =>
  intro b c h1 h2
  cases b with
  |nil=>simp [Go.Lib.compareBytes] at h1
  |cons y b =>
   cases c with
   |nil=>simp [Go.Lib.compareBytes] at h2
   |cons z c =>
    simp only [Go.Lib.compareBytes] at h1 h2 ⊢
    have t1:x < y→y < z→x < z:=UInt8.lt_trans
    have e1:¬ x < y→¬ y < x→x=y:=fun p q=>UInt8.le_antisymm (UInt8.not_lt.1 q) (UInt8.not_lt.1 p)
    have e2:¬ y < z→¬ z < y→y=z:=fun p q=>UInt8.le_antisymm (UInt8.not_lt.1 q) (UInt8.not_lt.1 p)
    by_cases c1:x < y
    ·by_cases c2:y < z
     ·simp [t1 c1 c2]
     ·by_cases c3:z < y
      ·simp [c2,c3] at h2
      ·have:=e2 c2 c3;subst this;simp [c1]
    ·by_cases c2:y < x
     ·simp [c1,c2] at h1
     ·have:=e1 c1 c2;subst this
      by_cases c3:x < z
      ·simp [c3]
      ·by_cases c4:z < x
       ·simp [c3,c4] at h2
       ·have:=e2 c3 c4;subst this
        simp only [c1,if_false,UInt8.lt_irrefl] at h1 h2 ⊢
        exact ih b c h1 h2
theorem Aqv:∀ a b:List UInt8,Go.Lib.compareBytes a b < 0 ∨ Go.Lib.compareBytes b a < 0 ∨ a=b:=by
 intro a
 induction a with
 |nil=>intro b;cases b<;>simp [Go.Lib.compareBytes]
 |cons x a ih =>
  intro b
  cases b with
  |nil=>simp [Go.Lib.compareBytes]
  |cons y b =>
   simp only [Go.Lib.compareBytes]
   by_cases c1:x < y
   ·simp [c1]
   ·by_cases c2:y < x
    ·simp [c1,c2]
    ·have:=UInt8.le_antisymm (UInt8.not_lt.1 c2) (UInt8.not_lt.1 c1)
     subst this
     rcases ih b with h | h | h<;>simp [UInt8.lt_irrefl,h]
theorem swoB:SWO ltB where
 irrefl:=fun x=>by simp [ltB,Aqp]
 trans:=fun x y z h1 h2=>by
  simp only [ltB,decide_eq_true_eq] at h1 h2 ⊢
  exact Ab5 _ _ _ h1 h2
 ntrans:=fun x y z h1 h2=>by
  simp only [ltB,decide_eq_false_iff_not] at h1 h2 ⊢
  intro h3
  rcases Aqv x.1 y.1 with h | h | h
  ·exact h1 h
  ·exact h2 (Ab5 _ _ _ h h3)
  ·rw [h] at h3;exact h2 h3
theorem Ab8:∀ a b:List UInt8,Go.Lib.compareBytes a b < 0 ↔ Op.bytesLess a b=true:=by
 intro a
 induction a with
 |nil=>intro b;cases b<;>simp [Go.Lib.compareBytes,Op.bytesLess]
 |cons x a ih =>
  intro b
  cases b with
  |nil=>simp [Go.Lib.compareBytes,Op.bytesLess]
  |cons y b =>
   simp only [Go.Lib.compareBytes,Op.bytesLess]
   by_cases h1:x < y
   ·simp [h1]
   ·by_cases h2:y < x
    ·simp [h1,h2]
     intro h;subst h;exact absurd h2 (UInt8.lt_irrefl _)
    ·have h3:y=x:=UInt8.le_antisymm (UInt8.not_lt.1 h1) (UInt8.not_lt.1 h2)
     subst h3
     simp [ih b]
theorem Aop {p q:Bd}:ltB p q=Op.bytesLess p.1 q.1:=by
 unfold ltB
 rw [Bool.eq_iff_iff,decide_eq_true_eq];exact Ab8 _ _
theorem A51 (a:List UInt8):Op.bytesLess a a=false:=by
 cases h:Op.bytesLess a a with
 |false=>rfl
 |true=>have:=(Ab8 a a).2 h;rw [Aqp] at this;omega
theorem A3b {a b c:List UInt8} (h1:Op.bytesLess a b=true) (h2:Op.bytesLess b c=true):Op.bytesLess a c=true:=(Ab8 _ _).1 (Ab5 _ _ _ ((Ab8 _ _).2 h1) ((Ab8 _ _).2 h2))
theorem Ac0 (a b:List UInt8):Op.bytesLess a b=true ∨ Op.bytesLess b a=true ∨ a=b:=by
 rcases Aqv a b with h | h | h
 ·exact .inl ((Ab8 _ _).1 h)
 ·exact .inr (.inl ((Ab8 _ _).1 h))
 ·exact .inr (.inr h)
theorem Amb {a b:List UInt8} (h:Op.bytesLess a b=true):Op.bytesLess b a=false:=by
 cases h2:Op.bytesLess b a with
 |false=>rfl
 |true=>have:=A3b h h2;rw [A51] at this;cases this
def SL (l:Env0):Prop:=l.Pairwise fun p q=>Op.bytesLess p.1 q.1=true
theorem SL.nodup {l:Env0} (h:SL l):l.Nodup:=List.Pairwise.imp (fun {a b} hab e=>by subst e;rw [A51] at hab;cases hab) h
theorem SL.unique {l m:Env0} (h1:SL l) (h2:SL m) (h:∀ p,p ∈ l ↔ p ∈ m):l=m :=
 List.Perm.eq_of_pairwise (fun a b _ _ hab hba=>by rw [Amb hab] at hba;cases hba) h1 h2 ((List.perm_ext_iff_of_nodup h1.nodup h2.nodup).2 h)
def ND (l:Env0):Prop:=l.Pairwise fun p q=>p.1 ≠ q.1
theorem Aq2 {s:List UInt8}:∀ {en:Env0},lkE en s=none→∀ p ∈ en,p.1 ≠ s:=by
 intro en
 induction en with
 |nil=>intro _ p hp;cases hp
 |cons q en ih =>
  obtain ⟨n,w⟩:=q
  intro h p hp
  simp only [lkE] at h
  split at h
  ·cases h
  ·rename_i hn
   rcases List.mem_cons.1 hp with rfl | hp
   ·exact fun e=>hn e.symm
   ·exact ih h p hp
theorem Ap3:∀ (xs:List Te) (en en':Env0),ND en→A20 varG en xs=.inl en'→ND en':=by
 intro xs
 induction xs with
 |nil=>intro en en' h e;simp only [A20] at e;cases e;exact h
 |cons x xs ih =>
  intro en en' h e
  simp only [A20] at e
  cases hg:varG en x with
  |inr u=>rw [hg] at e;cases e
  |inl en1 =>
   rw [hg] at e
   refine ih en1 en' ?_ e
   unfold varG at hg
   split at hg
   ·split at hg
    ·rename_i hl
     cases hg
     refine List.pairwise_append.2 ⟨h,List.pairwise_singleton _ _,fun a ha b hb=>?_⟩
     rw [List.mem_singleton] at hb;subst hb
     exact Aq2 hl a ha
    ·split at hg
     ·cases hg;exact h
     ·cases hg
   ·cases hg;exact h
theorem Ac4 {t:Te} {en:Env0} (h:A4n t=.inl en):ND en:=Ap3 _ _ _ List.Pairwise.nil h
theorem At9 {s:List UInt8} {w:Int}:∀ {en:Env0},ND en→(lkE en s=some w ↔ (s,w) ∈ en):=by
 intro en
 induction en with
 |nil=>intro _;simp [lkE]
 |cons q en ih =>
  obtain ⟨n,v⟩:=q
  intro h
  have h1:=List.pairwise_cons.1 h
  simp only [lkE,List.mem_cons,Prod.mk.injEq]
  split
  ·rename_i e;subst e
   constructor
   ·intro e;cases e;exact .inl ⟨rfl,rfl⟩
   ·rintro (⟨_,rfl⟩ | hm)
    ·rfl
    ·exact (h1.1 _ hm rfl).elim
  ·rename_i e
   rw [ih h1.2]
   constructor
   ·exact .inr
   ·rintro (⟨e1,_⟩ | hm)
    ·exact absurd e1 e
    ·exact hm
theorem Ad4 {t:Te} {en:Env0} (h:A4n t=.inl en) (p:List UInt8 × Int):p ∈ en ↔ p ∈ A0d t:=by
 rw [← (A4c h).2 p.1 p.2,At9 (Ac4 h)]
theorem Ajm {n:Nat} {d d':Array Bd} (hn:d.size=n) (hn':d'.size=n) (hp:PermIn 0 n d d') (hs:SortedIn ltB 0 n d') (hd:ND d.toList):SL d'.toList∧∀ p,p ∈ d'.toList ↔ p ∈ d.toList:=by
 have hperm:d'.toList.Perm d.toList:=by
  have:=hp.2.2
  rw [← hn] at this
  have e1:d.extract 0 d.size=d:=by simp
  have e2:d'.extract 0 d.size=d':=by rw [hn,← hn'];simp
  rwa [e1,e2] at this
 have hnd:ND d'.toList:=List.Perm.pairwise hperm.symm hd (fun h=>Ne.symm h)
 refine ⟨List.pairwise_iff_getElem.2 fun i j hi hj hij=>?_,fun p=>hperm.mem_iff⟩
 have h1:=hs i j (Nat.zero_le _) hij (by rw [← hn'];simpa using hj)
 have h2:=List.pairwise_iff_getElem.1 hnd i j hi hj hij
 have ei:d'[i]! = d'.toList[i]:=by
  have:i < d'.size:=by simpa using hi
  simp [this]
 have ej:d'[j]! = d'.toList[j]:=by
  have:j < d'.size:=by simpa using hj
  simp [this]
 rw [ei,ej,Aop] at h1
 rcases Ac0 d'.toList[i].1 d'.toList[j].1 with h | h | h
 ·exact h
 ·rw [h] at h1;cases h1
 ·exact absurd h h2
def posE (n:List UInt8):Env0→Nat
 |[]=>0
 |q::r=>if Op.bytesLess q.1 n=true then posE n r + 1 else 0
theorem At7 (n:List UInt8):∀ l:Env0,posE n l ≤ l.length:=by
 intro l
 induction l with
 |nil=>exact Nat.le_refl _
 |cons q l ih=>simp only [posE];split<;>simp only [List.length_cons]<;>omega
theorem An3 {n:List UInt8}:∀ {l:Env0} {k:Nat},k ≤ l.length→(∀ j,j < k→Op.bytesLess (l.getD j ([],0)).1 n=true)→(k < l.length→Op.bytesLess (l.getD k ([],0)).1 n=false)→posE n l=k:=by
 intro l
 induction l with
 |nil=>intro k hk _ _;simp at hk;subst hk;rfl
 |cons q l ih =>
  intro k hk h1 h2
  cases k with
  |zero =>
   have:=h2 (by simp)
   simp only [posE]
   rw [if_neg (by simpa using this)]
  |succ k =>
   have:=h1 0 (by omega)
   simp only [posE]
   rw [if_pos (by simpa using this),ih (k:=k) (by simpa using hk) (fun j hj=>by simpa using h1 (j + 1) (by omega)) (fun hj=>by simpa using h2 (by simpa using hj))]
def A4b (l:Env0) (p:List UInt8 × Int):Env0 :=
 if posE p.1 l=l.length ∨ (l.getD (posE p.1 l) ([],0)).1 ≠ p.1 then l.take (posE p.1 l) ++ [p] ++ l.drop (posE p.1 l) else l
theorem A6y (q p : List UInt8 × Int) (l : Env0) : A4b (q :: l) p = if Op.bytesLess q.1 p.1 = true then q :: A4b l p else if q.1 = p.1 then q :: l else p :: q :: l := by
  unfold A4b
  by_cases h : Op.bytesLess q.1 p.1 = true
  · simp only [posE, if_pos h, List.length_cons, List.take_succ_cons, List.drop_succ_cons, Nat.add_right_cancel_iff, List.getD_cons_succ]
    split <;> simp
  · simp only [posE, if_neg h, List.length_cons, List.take_zero, List.drop_zero, List.getD_cons_zero]
    by_cases e : q.1 = p.1
    · rw [if_neg (by rintro (h | h); · omega
                     · exact h e), if_pos e]
    · rw [if_pos (.inr e), if_neg e]; rfl
theorem Alg {p:List UInt8 × Int}:∀ {l:Env0},SL l→(∀ w,(p.1,w) ∈ l→w=p.2)→∀ q,q ∈ A4b l p ↔ q ∈ l ∨ q=p:=by
 intro l
 induction l with
 |nil=>intro _ _ q;simp [A4b,posE]
 |cons r l ih =>
  intro h hc q
  have h1:=List.pairwise_cons.1 h
  rw [A6y]
  split
  ·rw [List.mem_cons,ih h1.2 (fun w hw=>hc w (List.mem_cons_of_mem _ hw)),List.mem_cons,or_assoc]
  ·split
   ·rename_i e
    have:r=p:=by
     obtain ⟨a,b⟩:=r
     have:=hc b (by rw [← e];simp)
     obtain ⟨c,d⟩:=p
     simp only at e this;rw [e,this]
    constructor
    ·exact .inl
    ·rintro (hq | rfl)
     ·exact hq
     ·rw [← this];simp
   ·simp only [List.mem_cons]
    constructor
    ·rintro (h | h | h)
     ·exact .inr h
     ·exact .inl (.inl h)
     ·exact .inl (.inr h)
    ·rintro ((h | h) | h)
     ·exact .inr (.inl h)
     ·exact .inr (.inr h)
     ·exact .inl h
theorem Al9 {p:List UInt8 × Int}:∀ {l:Env0},∀ q,q ∈ A4b l p→q ∈ l ∨ q=p:=by
 intro l
 induction l with
 |nil=>intro q;simp [A4b,posE]
 |cons r l ih =>
  intro q
  rw [A6y]
  split
  ·simp only [List.mem_cons]
   rintro (h | h)
   ·exact .inl (.inl h)
   ·rcases ih q h with h | h
    ·exact .inl (.inr h)
    ·exact .inr h
  ·split
   ·exact .inl
   ·simp only [List.mem_cons]
    rintro (h | h | h)
    ·exact .inr h
    ·exact .inl (.inl h)
    ·exact .inl (.inr h)
theorem Apn {p:List UInt8 × Int}:∀ {l:Env0},SL l→SL (A4b l p):=by
 intro l
 induction l with
 |nil=>intro _;simp [A4b,posE,SL]
 |cons r l ih =>
  intro h
  have h1:=List.pairwise_cons.1 h
  rw [A6y]
  split
  ·rename_i hl
   refine List.pairwise_cons.2 ⟨fun q hq=>?_,ih h1.2⟩
   rcases Al9 q hq with hq | rfl
   ·exact h1.1 q hq
   ·exact hl
  ·rename_i hl
   split
   ·exact h
   ·rename_i e
    have hpr:Op.bytesLess p.1 r.1=true:=by
     rcases Ac0 r.1 p.1 with h | h | h
     ·exact absurd h hl
     ·exact h
     ·exact absurd h e
    refine List.pairwise_cons.2 ⟨fun q hq=>?_,h⟩
    rcases List.mem_cons.1 hq with rfl | hq
    ·exact hpr
    ·exact A3b hpr (h1.1 q hq)
theorem A8n (l:Env0) (p:List UInt8 × Int):(A4b l p).length ≤ l.length + 1:=by
 unfold A4b
 have:=At7 p.1 l
 split
 ·simp only [List.length_append,List.length_take,List.length_drop,List.length_cons,List.length_nil];omega
 ·omega
def insE:Env0→Env0→Env0
 |out,[]=>out
 |out,p::r=>insE (A4b out p) r
theorem A4w:∀ (L out M:Env0),SL out→(∀ p,p ∈ out ↔ p ∈ M)→Cons (M ++ L)→SL (insE out L)∧∀ p,p ∈ insE out L ↔ p ∈ M ++ L:=by
 intro L
 induction L with
 |nil=>intro out M h1 h2 _;simp only [insE,List.append_nil];exact ⟨h1,h2⟩
 |cons p L ih =>
  intro out M h1 h2 hc
  have hcp:∀ w,(p.1,w) ∈ out→w=p.2:=fun w hw=>hc p.1 w p.2 (by simp [(h2 _).1 hw]) (by simp)
  have:=ih (A4b out p) (M ++ [p]) (Apn h1) (fun q=>by rw [Alg h1 hcp,h2,List.mem_append,List.mem_singleton]) (by simpa using hc)
  simp only [insE]
  simpa using this
theorem Aob {t:Te} {en L:Env0} (h:A4n t=.inl en) (h1:SL L) (h2:∀ p,p ∈ L ↔ p ∈ en):L=insE [] (A0d t):=by
 obtain ⟨q1,q2⟩:=A4w (A0d t) [] [] List.Pairwise.nil (fun _=>Iff.rfl) (by simpa using (A4c h).1)
 exact SL.unique h1 q1 fun p=>by rw [h2,Ad4 h,q2];simp
theorem Agi {α:Type} {f:α→FV} {es:Nat} (h:∀ x,((f x).cells.length == es)=true):∀ l:List α,A9o es (l.map f)=true
 |[]=>rfl
 |x::_=>h x
def bd0 (p:List UInt8 × Int):FV:=.agg [.str p.1,.int .i64 p.2,.int .u64 0]
theorem Auj (l:Env0):pures (l.map bd0)=true:=A4s (fun _=>rfl) _
theorem Asc (b:Nat) (l:Env0):lows b (l.map bd0)=true:=A5a (fun _=>rfl) _
theorem Axt (l:Env0):(l.map bd0).all FV.ok=true:=all_map (fun _=>rfl) _
theorem Aul (l:Env0):((l.map bd0).all fun v=>v.cells.length == 3)=true:=all_map (fun _=>rfl) _
theorem Axn {l:Env0} {i:Nat} {d:FV} (h:i < l.length):(l.map bd0).getD i d=.agg [.str (l.getD i ([],0)).1,.int .i64 (l.getD i ([],0)).2,.int .u64 0]:=getD_map _ h
theorem A11:type_of% (And.intro A2m <| And.intro Ak4 <| And.intro Apz <| And.intro Ao6 <| And.intro @gd_T <| And.intro @ge_T <| And.intro Auj <| And.intro Asc <| And.intro Axt <| And.intro Aul @Axn):=And.intro A2m <| And.intro Ak4 <| And.intro Apz <| And.intro Ao6 <| And.intro @gd_T <| And.intro @ge_T <| And.intro Auj <| And.intro Asc <| And.intro Axt <| And.intro Aul @Axn
end Go.FI
namespace Go.FI
def toI (n a:Nat):Int:=if a < 2 ^ (n - 1) then a else (a:Int) - 2 ^ n
def opN (k:Int) (n a b:Nat):Nat :=
 if k=5 then (a + b) % 2 ^ n else if k=6 then (a + (2 ^ n - b)) % 2 ^ n else if k=7 then a * b % 2 ^ n
 else if k=8 then a &&& b else if k=9 then a ||| b else if k=10 then a ^^^ b
 else if k=11 then a * 2 ^ b % 2 ^ n else if k=12 then a / 2 ^ b else if k=13 then (toI n a / 2 ^ (min b 64) % 2 ^ n).toNat
 else if k=14 then (if b=0 then 2 ^ n - 1 else a / b) else if k=15 then (if b=0 then a else a % b)
 else if k=16 then (if a=b then 1 else 0) else if k=17 then (if a < b then 1 else 0)
 else if k=18 then (if toI n a < toI n b then 1 else 0) else 0
def unN (k:Int) (n a:Nat):Nat:=if k=3 then 2 ^ n - 1 - a else (2 ^ n - a) % 2 ^ n
section
variable {n a b:Nat}
theorem A76 {m n:Nat} (h:n ≤ m):((2:Int) ^ n) ∣ 2 ^ m:=by
 rw [← A0j,← A0j];exact Int.natCast_dvd_natCast.2 (Nat.pow_dvd_pow 2 h)
theorem w64 (x:Int):IntKind.u64.wrap x=x % 18446744073709551616:=by
 simp [IntKind.wrap,IntKind.bits,IntKind.signed]
theorem A5p (hn:n ≤ 64) (X:Int):band .u64 (IntKind.u64.wrap X) (2 ^ n - 1)=X % 2 ^ n:=by
 rw [w64,A9b (Int.emod_nonneg _ (by decide)) (Int.emod_lt_of_pos _ (by decide)) hn]
 exact Int.emod_emod_of_dvd X (A76 (m:=64) hn)
theorem Ah7 (hn:n ≤ 64) {X:Int} (h0:0 ≤ X) (h1:X < 18446744073709551616):band .u64 X (2 ^ n - 1)=X % 2 ^ n:=A9b h0 h1 hn
theorem A6l (hn:n ≤ 64) {X:Nat} (h1:X < 2 ^ n):band .u64 X (2 ^ n - 1)=(X:Int):=by
 have:=Aer hn
 have h2:((X:Nat):Int) < 2 ^ n:=by rw [← A0j];exact Int.ofNat_lt.2 h1
 rw [Ah7 hn (by omega) (by omega),Int.emod_eq_of_lt (by omega) h2]
theorem A7i (x:Nat):((x % 2 ^ n:Nat):Int)=(x:Int) % 2 ^ n:=by rw [Int.natCast_emod,A0j]
theorem lt64 (hn:n ≤ 64) (h:a < 2 ^ n):a < 18446744073709551616:=Nat.lt_of_lt_of_le h (Nat.pow_le_pow_right (by decide) hn:2 ^ n ≤ 2 ^ 64)
theorem Ays (hn:n ≤ 64):band .u64 (IntKind.u64.wrap ((a:Int) + b)) (2 ^ n - 1)=(opN 5 n a b:Nat):=by
 rw [A5p hn];simp only [opN,if_true];rw [A7i];congr 1
theorem Ayo (hn:n ≤ 64) (hb:b < 2 ^ n):band .u64 (IntKind.u64.wrap ((a:Int) - b)) (2 ^ n - 1)=(opN 6 n a b:Nat):=by
 rw [A5p hn]
 have e:opN 6 n a b=(a + (2 ^ n - b)) % 2 ^ n:=rfl
 rw [e,A7i,Int.natCast_add,Int.ofNat_sub (Nat.le_of_lt hb),A0j]
 rw [show (a:Int) + (2 ^ n - b)=(a - b) + 2 ^ n by omega,Int.add_emod_right]
theorem Ayb (hn:n ≤ 64):band .u64 (IntKind.u64.wrap ((a:Int) * b)) (2 ^ n - 1)=(opN 7 n a b:Nat):=by
 rw [A5p hn]
 have e:opN 7 n a b=a * b % 2 ^ n:=rfl
 rw [e,A7i,Int.natCast_mul]
theorem Az6 (hn:n ≤ 64) (ha:a < 2 ^ n) (hb:b < 2 ^ n):band .u64 (band .u64 a b) (2 ^ n - 1)=(opN 8 n a b:Nat):=by
 have h1:=lt64 hn ha
 have h2:=lt64 hn hb
 have e:=Agp (a:=(a:Int)) (b:=(b:Int)) (by omega) (by omega) (by omega) (by omega)
 rw [e,Int.toNat_natCast,Int.toNat_natCast]
 exact A6l hn (Nat.lt_of_le_of_lt Nat.and_le_left ha)
theorem X_or (hn:n ≤ 64) (ha:a < 2 ^ n) (hb:b < 2 ^ n):band .u64 (bor .u64 a b) (2 ^ n - 1)=(opN 9 n a b:Nat):=by
 have h1:=lt64 hn ha
 have h2:=lt64 hn hb
 have e:=Afg (a:=(a:Int)) (b:=(b:Int)) (by omega) (by omega) (by omega) (by omega)
 rw [e,Int.toNat_natCast,Int.toNat_natCast]
 exact A6l hn (Nat.or_lt_two_pow ha hb)
theorem Agm {a b:Int} (ha:0 ≤ a) (ha':a < 18446744073709551616) (hb:0 ≤ b) (hb':b < 18446744073709551616):bxor .u64 a b=((a.toNat ^^^ b.toNat:Nat):Int):=by
 have e:(BitVec.ofInt IntKind.u64.bits a ^^^ BitVec.ofInt IntKind.u64.bits b).toNat=a.toNat ^^^ b.toNat:=by
  rw [BitVec.toNat_xor];rw [show IntKind.u64.bits=64 from rfl,toNat_ofInt ha ha',toNat_ofInt hb hb']
 unfold bxor
 rw [e]
 have:=Nat.xor_lt_two_pow (n:=64) (x:=a.toNat) (y:=b.toNat) (by omega) (by omega)
 rw [Ahv (by omega)];omega
theorem B02 (hn:n ≤ 64) (ha:a < 2 ^ n) (hb:b < 2 ^ n):band .u64 (bxor .u64 a b) (2 ^ n - 1)=(opN 10 n a b:Nat):=by
 have h1:=lt64 hn ha
 have h2:=lt64 hn hb
 have e:=Agm (a:=(a:Int)) (b:=(b:Int)) (by omega) (by omega) (by omega) (by omega)
 rw [e,Int.toNat_natCast,Int.toNat_natCast]
 exact A6l hn (Nat.xor_lt_two_pow ha hb)
theorem Af0 (b:Nat):(min (b:Int) 64).toNat=min b 64:=by omega
theorem Az1 (hn:n ≤ 64):band .u64 (shl .u64 a (min (b:Int) 64)) (2 ^ n - 1)=(opN 11 n a b:Nat):=by
 unfold shl
 rw [A5p hn,Af0]
 have e:opN 11 n a b=a * 2 ^ b % 2 ^ n:=rfl
 rw [e,A7i,Int.natCast_mul,A0j]
 show (a:Int) * 2 ^ (min (min b 64) 64) % 2 ^ n=_
 by_cases h:b ≤ 64
 ·rw [show min (min b 64) 64=b by omega]
 ·rw [show min (min b 64) 64=64 by omega]
  have h1:(a:Int) * 2 ^ 64 % 2 ^ n=0:=Int.emod_eq_zero_of_dvd (Int.dvd_mul_of_dvd_right (A76 hn))
  have h2:(a:Int) * 2 ^ b % 2 ^ n=0:=Int.emod_eq_zero_of_dvd (Int.dvd_mul_of_dvd_right (A76 (by omega)))
  rw [h1,h2]
theorem B1a (hn:n ≤ 64) (ha:a < 2 ^ n):band .u64 (shr .u64 a (min (b:Int) 64)) (2 ^ n - 1)=(opN 12 n a b:Nat):=by
 have h1:=lt64 hn ha
 have e:opN 12 n a b=a / 2 ^ b:=rfl
 have hs:shr .u64 a (min (b:Int) 64)=((a / 2 ^ b:Nat):Int):=by
  unfold shr
  rw [Af0]
  show (a:Int).fdiv (2 ^ (min (min b 64) 64))=_
  rw [Int.fdiv_eq_ediv_of_nonneg _ (Int.le_of_lt (A1c _)),Int.natCast_ediv,A0j]
  by_cases h:b ≤ 64
  ·rw [show min (min b 64) 64=b by omega]
  ·rw [show min (min b 64) 64=64 by omega,Int.ediv_eq_zero_of_lt (by omega) (by show (a:Int) < 18446744073709551616;omega),Int.ediv_eq_zero_of_lt (by omega) (Int.lt_of_lt_of_le (by show (a:Int) < 18446744073709551616;omega) (show (18446744073709551616:Int) ≤ 2 ^ b from Aap (m:=64) (by omega)))]
 rw [hs,e]
 exact A6l hn (Nat.lt_of_le_of_lt (Nat.div_le_self _ _) ha)
theorem B0u (hn0:1 ≤ n) (hn:n ≤ 64) (ha:a < 2 ^ n):shr .i64 (IntKind.i64.wrap (shl .u64 a (64 - (n:Int)))) (64 - (n:Int))=toI n a:=by
 obtain ⟨u,hu⟩:∃ u:Nat,n + u=64:=⟨64 - n,by omega⟩
 have hu':(64 - (n:Int))=(u:Int):=by omega
 rw [hu']
 have hp:(2:Int) ^ n * 2 ^ u=18446744073709551616:=by rw [← Int.pow_add,hu];rfl
 have hpu:=A1c u
 have hh:(2:Int) ^ (n - 1) * 2 ^ u=9223372036854775808:=by rw [← Int.pow_add,show n - 1 + u=63 by omega];rfl
 have han:(a:Int) < 2 ^ n:=by rw [← A0j];exact Int.ofNat_lt.2 ha
 have hs:shl .u64 a u=(a:Int) * 2 ^ u:=by
  unfold shl
  rw [show min ((u:Int).toNat) IntKind.u64.bits=u by show min ((u:Int).toNat) 64=u;omega,w64]
  exact Int.emod_eq_of_lt (Int.mul_nonneg (by omega) (by omega)) (by rw [← hp];exact Int.mul_lt_mul_of_pos_right han hpu)
 rw [hs]
 unfold shr
 rw [show min ((u:Int).toNat) IntKind.i64.bits=u by show min ((u:Int).toNat) 64=u;omega,Int.fdiv_eq_ediv_of_nonneg _ (by omega)]
 have hwr:∀ x:Int,0 ≤ x→x < 18446744073709551616→IntKind.i64.wrap x=if x < 9223372036854775808 then x else x - 18446744073709551616:=by
  intro x h0 h1
  show (if (true && decide (x % 18446744073709551616 ≥ 9223372036854775808))=true then x % 18446744073709551616 - 18446744073709551616 else x % 18446744073709551616)=_
  rw [Int.emod_eq_of_lt h0 h1]
  simp only [Bool.true_and,decide_eq_true_eq]
  split<;>split<;>omega
 rw [hwr _ (Int.mul_nonneg (by omega) (by omega)) (by rw [← hp];exact Int.mul_lt_mul_of_pos_right han hpu)]
 unfold toI
 have e2:=A0j (n - 1)
 by_cases hc:a < 2 ^ (n - 1)
 ·have hc':(a:Int) < 2 ^ (n - 1):=by rw [← e2];exact Int.ofNat_lt.2 hc
  rw [if_pos (by rw [← hh];exact Int.mul_lt_mul_of_pos_right hc' hpu),if_pos hc]
  exact Int.mul_ediv_cancel _ (by omega)
 ·have hc':(2:Int) ^ (n - 1) ≤ a:=by rw [← e2];exact Int.ofNat_le.2 (by omega)
  have:¬ (a:Int) * 2 ^ u < 9223372036854775808:=by
   rw [← hh];exact Int.not_lt.2 (Int.mul_le_mul_of_nonneg_right hc' (by omega))
  rw [if_neg this,if_neg hc,← hp,← Int.sub_mul]
  exact Int.mul_ediv_cancel _ (by omega)
theorem B1o (hn:n ≤ 64):band .u64 (IntKind.u64.wrap (shr .i64 (toI n a) (min (b:Int) 64))) (2 ^ n - 1)=(opN 13 n a b:Nat):=by
 rw [A5p hn]
 have e:opN 13 n a b=(toI n a / 2 ^ (min b 64) % 2 ^ n).toNat:=rfl
 have hp:=A1c n
 rw [e,Int.toNat_of_nonneg (Int.emod_nonneg _ (by omega))]
 unfold shr
 rw [Af0]
 show ((toI n a).fdiv (2 ^ (min (min b 64) 64))) % 2 ^ n=_
 rw [Int.fdiv_eq_ediv_of_nonneg _ (Int.le_of_lt (A1c _)),show min (min b 64) 64=min b 64 by omega]
theorem Avx (hn:n ≤ 64):band .u64 18446744073709551615 (2 ^ n - 1)=(opN 14 n a 0:Nat):=by
 rw [Ah7 hn (by decide) (by decide)]
 have e:opN 14 n a 0=2 ^ n - 1:=rfl
 have h1:=Aer hn
 have h2:=A1c n
 have h3:=A0j n
 rw [e]
 have:(18446744073709551615:Int) % 2 ^ n=2 ^ n - 1:=by
  obtain ⟨c,hc⟩:=A76 (m:=64) hn
  have hc:(18446744073709551616:Int)=2 ^ n * c:=hc
  have:(18446744073709551615:Int)=(2 ^ n - 1) + 2 ^ n * (c - 1):=by rw [Int.mul_sub,← hc];omega
  rw [this,Int.add_mul_emod_self_left,Int.emod_eq_of_lt (by omega) (by omega)]
 rw [this]
 have h4:1 ≤ 2 ^ n:=Nat.one_le_two_pow
 omega
theorem Ayy (hn:n ≤ 64) (ha:a < 2 ^ n) (hb:b ≠ 0):band .u64 ((a / b:Nat):Int) (2 ^ n - 1)=(opN 14 n a b:Nat):=by
 have e:opN 14 n a b=a / b:=by simp [opN,hb]
 rw [e];exact A6l hn (Nat.lt_of_le_of_lt (Nat.div_le_self _ _) ha)
theorem Axv (hn:n ≤ 64) (ha:a < 2 ^ n):band .u64 (a:Int) (2 ^ n - 1)=(opN 15 n a 0:Nat):=A6l hn ha
theorem Azr (hn:n ≤ 64) (ha:a < 2 ^ n) (hb:b ≠ 0):band .u64 ((a % b:Nat):Int) (2 ^ n - 1)=(opN 15 n a b:Nat):=by
 have e:opN 15 n a b=a % b:=by simp [opN,hb]
 rw [e];exact A6l hn (Nat.lt_of_le_of_lt (Nat.mod_le _ _) ha)
theorem Asg (hn0:1 ≤ n) (hn:n ≤ 64) (c:Bool):band .u64 (if c=true then 1 else 0) (2 ^ n - 1)=(if c=true then 1 else 0):=by
 have h2:1 < 2 ^ n:=Nat.lt_of_lt_of_le (by decide:1 < 2 ^ 1) (Nat.pow_le_pow_right (by decide) hn0)
 cases c
 ·exact A6l (X:=0) hn (by omega)
 ·exact A6l (X:=1) hn h2
theorem Ar3 (hn0:1 ≤ n) (ha:a < 2 ^ n) (hb:b < 2 ^ n) (k:Int):opN k n a b < 2 ^ n:=by
 have h2:1 < 2 ^ n:=Nat.lt_of_lt_of_le (by decide:1 < 2 ^ 1) (Nat.pow_le_pow_right (by decide) hn0)
 have h0:0 < 2 ^ n:=by omega
 unfold opN
 by_cases k5:k=5
 ·rw [if_pos k5];exact Nat.mod_lt _ h0
 rw [if_neg k5]
 by_cases k6:k=6
 ·rw [if_pos k6];exact Nat.mod_lt _ h0
 rw [if_neg k6]
 by_cases k7:k=7
 ·rw [if_pos k7];exact Nat.mod_lt _ h0
 rw [if_neg k7]
 by_cases k8:k=8
 ·rw [if_pos k8];exact Nat.lt_of_le_of_lt Nat.and_le_left ha
 rw [if_neg k8]
 by_cases k9:k=9
 ·rw [if_pos k9];exact Nat.or_lt_two_pow ha hb
 rw [if_neg k9]
 by_cases k10:k=10
 ·rw [if_pos k10];exact Nat.xor_lt_two_pow ha hb
 rw [if_neg k10]
 by_cases k11:k=11
 ·rw [if_pos k11];exact Nat.mod_lt _ h0
 rw [if_neg k11]
 by_cases k12:k=12
 ·rw [if_pos k12];exact Nat.lt_of_le_of_lt (Nat.div_le_self _ _) ha
 rw [if_neg k12]
 by_cases k13:k=13
 ·rw [if_pos k13]
  have hp:=A1c n
  have h1:=Int.emod_lt_of_pos (toI n a / 2 ^ (min b 64)) hp
  have h3:=Int.emod_nonneg (toI n a / 2 ^ (min b 64)) (b:=2 ^ n) (by omega)
  have h4:=A0j n
  omega
 rw [if_neg k13]
 by_cases k14:k=14
 ·rw [if_pos k14]
  by_cases hb0:b=0
  ·rw [if_pos hb0];omega
  ·rw [if_neg hb0];exact Nat.lt_of_le_of_lt (Nat.div_le_self _ _) ha
 rw [if_neg k14]
 by_cases k15:k=15
 ·rw [if_pos k15]
  by_cases hb0:b=0
  ·rw [if_pos hb0];exact ha
  ·rw [if_neg hb0];exact Nat.lt_of_le_of_lt (Nat.mod_le _ _) ha
 rw [if_neg k15]
 have key:∀ c:Prop,[Decidable c]→(if c then 1 else 0) < 2 ^ n:=fun c _=>by
  by_cases hc:c
  ·rw [if_pos hc];exact h2
  ·rw [if_neg hc];exact h0
 by_cases k16:k=16
 ·rw [if_pos k16];exact key _
 rw [if_neg k16]
 by_cases k17:k=17
 ·rw [if_pos k17];exact key _
 rw [if_neg k17]
 by_cases k18:k=18
 ·rw [if_pos k18];exact key _
 rw [if_neg k18];exact h0
theorem Axd (ha:a < 2 ^ n) (k:Int):unN k n a < 2 ^ n:=by
 have h0:0 < 2 ^ n:=Nat.pow_pos (by decide)
 unfold unN
 split
 ·omega
 ·exact Nat.mod_lt _ h0
theorem Azb (hn:n ≤ 64) (ha:a < 2 ^ n):band .u64 (bxor .u64 18446744073709551615 a) (2 ^ n - 1)=(unN 3 n a:Nat):=by
 have h1:=lt64 hn ha
 rw [Agm (by decide) (by decide) (by omega) (by omega)]
 have e:unN 3 n a=2 ^ n - 1 - a:=rfl
 have hx:((18446744073709551615:Int).toNat ^^^ (a:Int).toNat)=18446744073709551615 - a:=by
  rw [Int.toNat_natCast]
  have:(18446744073709551615:Int).toNat=2 ^ 64 - 1:=rfl
  rw [this]
  have h:a < 2 ^ 64:=h1
  apply Nat.eq_of_testBit_eq
  intro i
  have e:18446744073709551615 - a=2 ^ 64 - (a + 1):=by omega
  rw [e,Nat.testBit_two_pow_sub_succ h,Nat.testBit_xor,Nat.testBit_two_pow_sub_one]
  by_cases hi:i < 64
  ·simp [hi]
  ·have hb:=Nat.testBit_lt_two_pow (x:=a) (i:=i) (Nat.lt_of_lt_of_le h (Nat.pow_le_pow_right (by decide) (by omega:64 ≤ i)))
   simp [hi,hb]
 have h2:=Aer hn
 have h3:=A0j n
 rw [hx,Ah7 hn (by omega) (by omega),e]
 obtain ⟨c,hc⟩:=A76 (m:=64) hn
 have hc:(18446744073709551616:Int)=2 ^ n * c:=hc
 have h4:((18446744073709551615 - a:Nat):Int)=((2 ^ n - 1 - a:Nat):Int) + 2 ^ n * (c - 1):=by
  rw [Int.mul_sub,← hc];omega
 rw [h4,Int.add_mul_emod_self_left,Int.emod_eq_of_lt (by omega) (by omega)]
theorem Azp (hn:n ≤ 64) (ha:a < 2 ^ n):band .u64 (IntKind.u64.wrap (0 - (a:Int))) (2 ^ n - 1)=(unN 4 n a:Nat):=by
 rw [A5p hn]
 have e:unN 4 n a=(2 ^ n - a) % 2 ^ n:=rfl
 rw [e,A7i,Int.ofNat_sub (Nat.le_of_lt ha),A0j,show (2:Int) ^ n - a=(0 - a) + 2 ^ n by omega,Int.add_emod_right]
end
def exN (s:Bool) (n m a:Nat):Nat:=if s=true then (toI n a % 2 ^ m).toNat else a
theorem Avt {s:Bool} {n m a:Nat} (hnm:n ≤ m) (ha:a < 2 ^ n):exN s n m a < 2 ^ m:=by
 unfold exN
 split
 ·have hp:=A1c m
  have h1:=Int.emod_lt_of_pos (toI n a) hp
  have h3:=Int.emod_nonneg (toI n a) (b:=2 ^ m) (by omega)
  have h4:=A0j m
  omega
 ·exact Nat.lt_of_lt_of_le ha (Nat.pow_le_pow_right (by decide) hnm)
end Go.FI
namespace Go.FI
def vop (ld:Nat→Nat→Nat→Nat) (k w b lo:Int) (r:Nat) (ws:List Int) (vs:List Nat):Nat :=
 if k=1 then b.toNat else if k=2 then r
 else if k=3 ∨ k=4 then unN k (ws.getD 0 0).toNat (vs.getD 0 0)
 else if k=19 then (if vs.getD 0 0=1 then vs.getD 1 0 else vs.getD 2 0)
 else if k=20 then vs.getD 0 0 * 2 ^ (ws.getD 1 0).toNat + vs.getD 1 0
 else if k=21 then vs.getD 0 0 / 2 ^ lo.toNat % 2 ^ w.toNat
 else if k=22 ∨ k=23 then exN (decide (k=23)) (ws.getD 0 0).toNat w.toNat (vs.getD 0 0)
 else if k=24 then ld (ws.getD 0 0).toNat (vs.getD 0 0) w.toNat
 else opN k (ws.getD 0 0).toNat (vs.getD 0 0) (vs.getD 1 0)
section
variable (ρ:List UInt8→Nat) (ld:Nat→Nat→Nat→Nat)
mutual
def valT:Te→Nat
 |.mk k w b s lo _ l=>vop ld k w b lo (ρ s) (l.map Tm'.w) (valL l)
def valL:List Te→List Nat
 |[]=>[]
 |x::r=>valT x::valL r
end
theorem Aog (l:List Te):valL ρ ld l=l.map (valT ρ ld):=by
 induction l with
 |nil=>simp [valL]
 |cons x l ih=>simp only [valL,ih,List.map_cons]
theorem A79 (t:Te):valT ρ ld t=vop ld t.k t.w t.b t.lo (ρ t.s) (t.l.map Tm'.w) (t.l.map (valT ρ ld)):=by
 cases t;simp only [valT,Aog,Tm'.k,Tm'.w,Tm'.b,Tm'.s,Tm'.lo,Tm'.l]
variable {ρ ld}
theorem Az3 {k w b lo:Int} {r r':Nat} {ws:List Int} {vs:List Nat} (h:k=2→r=r'):vop ld k w b lo r ws vs=vop ld k w b lo r' ws vs:=by
 unfold vop
 by_cases h1:k=1
 ·rw [if_pos h1,if_pos h1]
 ·rw [if_neg h1,if_neg h1]
  by_cases h2:k=2
  ·rw [if_pos h2,if_pos h2];exact h h2
  ·rw [if_neg h2,if_neg h2]
theorem Aiw {ρ':List UInt8→Nat} (t:Te) (h:∀ x ∈ A0k t,x.k=2→ρ x.s=ρ' x.s):valT ρ ld t=valT ρ' ld t:=by
 induction t using Tm'.ind with
 |h t ih =>
 have hl:t.l.map (valT ρ ld)=t.l.map (valT ρ' ld):=List.map_congr_left fun x hx=>ih x hx fun y hy=>h y (A3h hx hy)
 rw [A79,A79,hl]
 exact Az3 (h t (A3p t))
end
abbrev EnvU:=List (List UInt8 × Nat)
def kvU (p:List UInt8 × Nat):FV × FV:=(.str p.1,.int .u64 p.2)
def lkU:EnvU→List UInt8→Option Nat
 |[],_=>none
 |(n,w)::r,s=>if s=n then some w else lkU r s
theorem Avg (s:List UInt8):∀ en:EnvU,FI.find 1 (.str s) (en.map kvU)=some ((lkU en s).map fun x:Nat=>.int .u64 x):=by
 intro en
 induction en with
 |nil=>rfl
 |cons p en ih =>
  obtain ⟨n,w⟩:=p
  simp only [List.map_cons,kvU,FI.find,A7c,bnd,lkU]
  by_cases e:s=n
  ·simp [e]
  ·rw [if_neg (by simpa using e),if_neg e]
   exact ih
theorem Ayi (s:List UInt8) (w:Nat):∀ en:EnvU,lkU en s=none→FI.update 1 (.str s) (.int .u64 w) (en.map kvU)=some ((en ++ [(s,w)]).map kvU):=by
 intro en
 induction en with
 |nil=>intro _;rfl
 |cons p en ih =>
  obtain ⟨n,v⟩:=p
  intro h
  simp only [lkU] at h
  by_cases e:s=n
  ·simp [e] at h
  ·simp only [if_neg e] at h
   have e':(s == n)=false:=by simpa using e
   simp only [List.map_cons,kvU,FI.update,A7c,bnd,List.cons_append]
   rw [if_neg (by simp [e'])]
   have:=ih h
   simp only [List.map_append,List.map_cons,List.map_nil,kvU] at this ⊢
   rw [this]
end Go.FI
namespace Go.FI
end Go.FI
namespace Go.FI
theorem Afk [Sys] {T:Tab} {f:Nat} {d:Fn} {args ws:List FV} {h:Heap} {nx:Nat} {r:FV} (ht:tget T f=some (.fn d)) (hm:d.mode=.isc) (hn:args.length=d.np) (hf:frzs h deep args=some ws)
  (hr:@Ok Out (runs T [.code d.body] (params 0 ws) [] 0) ⟨fun x=>resV d.res x=some r⟩) (hlt:f < RB:=by decide):lim T f args h nx=some (r,A2i h (idL h deep args),nx):=by
 obtain ⟨x,h1,h2⟩:=hr
 rw [Aci ht hlt]
 unfold A1k
 rw [chk,if_pos hn,hm]
 simp only
 rw [hf]
 show (bnd (runs T [.code d.body] (params 0 ws) [] 0) fun x=>bnd (finish d x) fun v=>bnd (frz x.2.2.1 deep v) fun r=>some (r,A2i h (idL h deep args),nx))=_
 rw [h1]
 show (bnd (finish d x) fun v=>bnd (frz x.2.2.1 deep v) fun r=>some (r,A2i h (idL h deep args),nx))=_
 obtain ⟨e,m',h',nx'⟩:=x
 have key:∀ {vs:Option (List FV)},(@B (List FV) FV vs ⟨fun vs=>frz h' deep (result vs)⟩)=some r→(bnd (bnd vs fun vs=>some (result vs)) fun v=>bnd (frz h' deep v) fun r=>some (r,A2i h (idL h deep args),nx))=some (r,A2i h (idL h deep args),nx):=by
  intro vs hv
  cases vs with
  |none=>cases hv
  |some vs =>
   have hv:frz h' deep (result vs)=some r:=hv
   show (bnd (frz h' deep (result vs)) fun r=>some (r,A2i h (idL h deep args),nx))=_
   rw [hv]
   rfl
 cases e with
 |xt i=>cases h2
 |fin=>exact key h2
 |ret=>exact key h2
 |pan u =>
  have h2:frz h' deep (.pan u)=some r:=h2
  show (bnd (frz h' deep (.pan u)) fun r=>some (r,A2i h (idL h deep args),nx))=_
  rw [h2]
  rfl
theorem Apf [Sys] {T:Tab} {f:Nat} {d:Fn} {ws:List FV} {p:FV→Prop} (ht:tget T f=some (.fn d)) (hm:d.mode=.isc) (hn:ws.length=d.np)
  (hr:@Ok Out (runs T [.code d.body] (params 0 ws) [] 0) ⟨fun x=>@Ok FV (resV d.res x) ⟨p⟩⟩) (hlt:f < RB:=by decide):∃ r,p r∧∀ args h nx,args.length=ws.length→frzs h deep args=some ws→lim T f args h nx=some (r,A2i h (idL h deep args),nx):=by
 obtain ⟨x,h1,r,h2,h3⟩:=hr
 exact ⟨r,h3,fun args h nx hl hf=>Afk ht hm (hl.trans hn) hf ⟨x,h1,h2⟩ hlt⟩
end Go.FI
namespace Go.FI
def numB:List Bool→Nat
 |[]=>0
 |b::l=>b.toNat + 2 * numB l
theorem A2k:∀ l:List Bool,numB l < 2 ^ l.length:=by
 intro l
 induction l with
 |nil=>simp [numB]
 |cons b l ih=>simp only [numB,List.length_cons,Nat.pow_succ];have:=b.toNat_le;omega
theorem A3s:∀ l m:List Bool,numB (l ++ m)=numB l + 2 ^ l.length * numB m:=by
 intro l m
 induction l with
 |nil=>simp [numB]
 |cons b l ih =>
  simp only [List.cons_append,numB,ih,List.length_cons,Nat.pow_succ]
  rw [Nat.mul_add,show 2 ^ l.length * 2 * numB m=2 * (2 ^ l.length * numB m) by rw [Nat.mul_comm (2 ^ l.length) 2,Nat.mul_assoc]]
  omega
def A08 (w x:Nat):List Bool:=(List.range w).map fun i=>decide (x / 2 ^ i % 2=1)
theorem A18 (w x:Nat):(A08 w x).length=w:=by simp [A08]
theorem Ahy (w x:Nat):A08 (w + 1) x=decide (x % 2=1)::A08 w (x / 2):=by
 unfold A08
 rw [List.range_succ_eq_map,List.map_cons,List.map_map]
 simp only [Nat.pow_zero,Nat.div_one]
 congr 1
 refine List.map_congr_left fun i _=>?_
 have e:x / 2 ^ (i + 1)=x / 2 / 2 ^ i:=by rw [Nat.pow_succ,Nat.mul_comm (2 ^ i) 2,← Nat.div_div_eq_div_mul]
 show decide (x / 2 ^ (i + 1) % 2=1)=decide (x / 2 / 2 ^ i % 2=1)
 rw [decide_eq_decide,e]
theorem Adi (w x:Nat):A08 (w + 1) x=A08 w x ++ [decide (x / 2 ^ w % 2=1)]:=by
 unfold A08;rw [List.range_succ,List.map_append];rfl
theorem A30:∀ w x:Nat,numB (A08 w x)=x % 2 ^ w:=by
 intro w
 induction w with
 |zero=>intro x;simp [A08,numB,Nat.mod_one]
 |succ w ih =>
  intro x
  rw [Ahy,numB,ih,Nat.pow_succ,Nat.mul_comm (2 ^ w) 2,Nat.mod_mul]
  have:(decide (x % 2=1)).toNat=x % 2:=by
   rcases Nat.mod_two_eq_zero_or_one x with h | h<;>simp [h]
  rw [this]
theorem A86:∀ l:List Bool,numB (l.map not) + numB l + 1=2 ^ l.length:=by
 intro l
 induction l with
 |nil=>simp [numB]
 |cons b l ih =>
  simp only [List.map_cons,numB,List.length_cons,Nat.pow_succ]
  have:(!b).toNat + b.toNat=1:=by cases b<;>rfl
  omega
def addB:List Bool→List Bool→Bool→List Bool
 |a::p,b::q,c=>decide ((a.toNat + b.toNat + c.toNat) % 2=1)::addB p q (decide ((a.toNat + b.toNat + c.toNat) / 2=1))
 |_,_,_=>[]
theorem A49:∀ (a b:List Bool) (c:Bool),a.length=b.length→(addB a b c).length=a.length:=by
 intro a
 induction a with
 |nil=>intro b c _;cases b<;>rfl
 |cons x a ih =>
  intro b c h
  cases b with
  |nil=>simp at h
  |cons y b=>simp only [addB,List.length_cons];rw [ih b _ (by simpa using h)]
theorem A6e:∀ (a b:List Bool) (c:Bool),a.length=b.length→numB (addB a b c)=(numB a + numB b + c.toNat) % 2 ^ a.length:=by
 intro a
 induction a with
 |nil=>intro b c h;cases b with
  |nil=>simp [addB,numB,Nat.mod_one]
  |cons=>simp at h
 |cons x a ih =>
  intro b c h
  cases b with
  |nil=>simp at h
  |cons y b =>
   simp only [addB,numB,List.length_cons]
   rw [ih b _ (by simpa using h),Nat.pow_succ,Nat.mul_comm (2 ^ a.length) 2,Nat.mod_mul]
   have h1:(decide ((x.toNat + y.toNat + c.toNat) % 2=1)).toNat=(x.toNat + y.toNat + c.toNat) % 2:=by cases x<;>cases y<;>cases c<;>rfl
   have h2:(decide ((x.toNat + y.toNat + c.toNat) / 2=1)).toNat=(x.toNat + y.toNat + c.toNat) / 2:=by cases x<;>cases y<;>cases c<;>rfl
   rw [h1,h2]
   congr 1
   ·omega
   ·congr 2
    omega
def upB (l:List Bool):List Bool:=false::l.dropLast
theorem Akq (l:List Bool) (h:l ≠ []):numB (upB l)=2 * numB l % 2 ^ l.length:=by
 obtain ⟨m,b,rfl⟩:∃ m b,l=m ++ [b]:=⟨l.dropLast,l.getLast h,(List.dropLast_concat_getLast h).symm⟩
 unfold upB
 rw [List.dropLast_concat,numB,A3s,List.length_append,List.length_cons,List.length_nil,Nat.pow_succ]
 have:=A2k m
 simp only [numB,Bool.toNat_false,Nat.mul_zero,Nat.add_zero,Nat.zero_add]
 rw [show 2 * (numB m + 2 ^ m.length * b.toNat)=2 * numB m + (2 ^ m.length * 2) * b.toNat by rw [Nat.mul_add,Nat.mul_comm (2 ^ m.length) 2,Nat.mul_assoc],Nat.add_mul_mod_self_left]
 exact (Nat.mod_eq_of_lt (by omega)).symm
theorem Ag8 (l:List Bool) (h:l ≠ []):(upB l).length=l.length:=by
 have:=List.length_pos_iff.2 h
 simp [upB];omega
def mulB:List Bool→List Bool→List Bool→List Bool
 |out,_,[]=>out
 |out,a,b::bs=>mulB (if b then addB out a false else out) (upB a) bs
theorem Agz:∀ (bs out a:List Bool),out.length=a.length→a ≠ []→numB (mulB out a bs)=(numB out + numB a * numB bs) % 2 ^ a.length∧(mulB out a bs).length=a.length:=by
 intro bs
 induction bs with
 |nil=>intro out a h _;simp only [mulB,numB,Nat.mul_zero,Nat.add_zero];exact ⟨(Nat.mod_eq_of_lt (h ▸ A2k out)).symm,h⟩
 |cons b bs ih =>
  intro out a h h0
  simp only [mulB]
  have hu:=Ag8 a h0
  have hne:upB a ≠ []:=by simp [upB]
  have hl:(if b then addB out a false else out).length=(upB a).length:=by
   rw [hu];split
   ·rw [A49 out a false h,h]
   ·exact h
  obtain ⟨i1,i2⟩:=ih (if b then addB out a false else out) (upB a) hl hne
  refine ⟨?_,by rw [i2,hu]⟩
  rw [i1,hu,Akq a h0]
  have hb:numB (if b then addB out a false else out)=(numB out + b.toNat * numB a) % 2 ^ a.length:=by
   cases b with
   |true=>simp only [if_true,Bool.toNat_true,Nat.one_mul];rw [A6e out a false h,h];simp
   |false=>simp only [Bool.false_eq_true,if_false,Bool.toNat_false,Nat.zero_mul,Nat.add_zero];exact (Nat.mod_eq_of_lt (h ▸ A2k out)).symm
  rw [hb]
  simp only [numB]
  rw [Nat.mod_add_mod,Nat.add_mod,Nat.mod_mul_mod,← Nat.add_mod]
  congr 1
  rw [Nat.mul_add,Nat.mul_comm (numB a) b.toNat,Nat.add_assoc]
  congr 2
  rw [Nat.mul_comm 2 (numB a),Nat.mul_assoc]
end Go.FI
namespace Go.FI
theorem Abf (l:List Bool) (i:Nat) (hi:i ≤ l.length):numB l=numB (l.take i) + 2 ^ i * numB (l.drop i):=by
 have:=A3s (l.take i) (l.drop i)
 rw [List.take_append_drop,List.length_take,Nat.min_eq_left hi] at this
 exact this
theorem Ad6 (l:List Bool) (i:Nat) (hi:i ≤ l.length):numB (l.drop i)=numB l / 2 ^ i:=by
 have h1:=Abf l i hi
 have h2:=A2k (l.take i)
 rw [List.length_take,Nat.min_eq_left hi] at h2
 rw [h1,Nat.add_mul_div_left _ _ (Nat.pow_pos (by decide)),Nat.div_eq_of_lt h2,Nat.zero_add]
theorem A8y (l:List Bool) (i:Nat) (hi:i ≤ l.length):numB (l.take i)=numB l % 2 ^ i:=by
 have h1:=Abf l i hi
 have h2:=A2k (l.take i)
 rw [List.length_take,Nat.min_eq_left hi] at h2
 rw [h1,Nat.add_mul_mod_self_left,Nat.mod_eq_of_lt h2]
theorem A94 (l:List Bool) (i:Nat) (hi:i < l.length):numB l=numB (l.take i) + 2 ^ i * ((l.getD i false).toNat + 2 * numB (l.drop (i + 1))):=by
 rw [Abf l i (by omega),List.drop_eq_getElem_cons hi,numB]
 congr 3
 simp [List.getD,hi]
theorem Aoy (l:List Bool) (i:Nat) (hi:i < l.length) (h0:l.getD i false=false):numB (l.set i true)=numB l + 2 ^ i:=by
 rw [A94 l i hi,A94 (l.set i true) i (by simpa using hi),h0]
 have e1:(l.set i true).take i=l.take i:=List.take_set_of_le (Nat.le_refl _)
 have e2:(l.set i true).drop (i + 1)=l.drop (i + 1):=List.drop_set_of_lt (by omega)
 have e3:(l.set i true).getD i false=true:=by simp [List.getD,hi]
 rw [e1,e2,e3,Nat.mul_add,Nat.mul_add]
 simp only [Bool.toNat_true,Bool.toNat_false]
 omega
theorem As9 {a b:List Bool} (hl:a.length=b.length) {i:Nat} (hi:i < a.length) (he:a.drop (i + 1)=b.drop (i + 1)) (hne:a.getD i false ≠ b.getD i false):(numB a < numB b) ↔ a.getD i false=false:=by
 rw [A94 a i hi,A94 b i (by omega),he]
 have h1:=A2k (a.take i)
 have h2:=A2k (b.take i)
 rw [List.length_take,Nat.min_eq_left (by omega)] at h1 h2
 cases ha:a.getD i false<;>cases hb:b.getD i false
 ·rw [ha,hb] at hne;exact absurd rfl hne
 ·simp only [Bool.toNat_false,Bool.toNat_true,Nat.mul_add];constructor
  ·intro _;trivial
  ·intro _;omega
 ·simp only [Bool.toNat_false,Bool.toNat_true,Nat.mul_add];constructor
  ·intro _;omega
  ·intro h;cases h
 ·rw [ha,hb] at hne;exact absurd rfl hne
theorem Akn {a b:List Bool} (he:a=b):¬ numB a < numB b:=by rw [he];omega
theorem A2f (n:Nat):numB (List.replicate n false)=0:=by
 induction n with
 |zero=>rfl
 |succ n ih=>simp [List.replicate_succ,numB,ih]
theorem A96 (n:Nat):numB (List.replicate n true) + 1=2 ^ n:=by
 induction n with
 |zero=>rfl
 |succ n ih=>simp only [List.replicate_succ,numB,Bool.toNat_true,Nat.pow_succ];omega
def A7z (l:List Bool) (n:Nat) (f:Bool):List Bool:=l.drop n ++ List.replicate (min n l.length) f
def upsB (l:List Bool) (n:Nat):List Bool:=List.replicate (min n l.length) false ++ l.take (l.length - n)
theorem A9c (l:List Bool) (n:Nat) (f:Bool):(A7z l n f).length=l.length:=by simp [A7z];omega
theorem Ah0 (l:List Bool) (n:Nat):(upsB l n).length=l.length:=by simp [upsB];omega
theorem Al8 (l:List Bool) (n:Nat) (f:Bool) (i:Nat) (hi:i < l.length):(A7z l n f).getD i false=if l.length ≤ i + n then f else l.getD (i + n) false:=by
 unfold A7z
 split
 ·rename_i h
  rw [List.getD,List.getElem?_append_right (by simp;omega),List.getElem?_replicate,if_pos (by simp;omega)];rfl
 ·rename_i h
  rw [List.getD,List.getElem?_append_left (by simp;omega),List.getElem?_drop,List.getD,Nat.add_comm]
theorem Apc (l:List Bool) (n:Nat) (i:Nat) (hi:i < l.length):(upsB l n).getD i false=if i < n then false else l.getD (i - n) false:=by
 unfold upsB
 split
 ·rename_i h
  rw [List.getD,List.getElem?_append_left (by simp;omega),List.getElem?_replicate,if_pos (by omega)];rfl
 ·rename_i h
  rw [List.getD,List.getElem?_append_right (by simp;omega),List.length_replicate,Nat.min_eq_left (by omega),List.getElem?_take_of_lt (by omega),List.getD]
theorem Ae6 (l:List Bool) (n:Nat) (f:Bool):numB (A7z l n f)=numB l / 2 ^ n + (if f then 2 ^ l.length - 2 ^ (l.length - n) else 0):=by
 unfold A7z
 rw [A3s,List.length_drop]
 by_cases h:n ≤ l.length
 ·rw [Nat.min_eq_left h,Ad6 l n h]
  cases f with
  |false=>rw [A2f];simp
  |true =>
   have h1:=A96 n
   have e:(2:Nat) ^ l.length=2 ^ (l.length - n) * 2 ^ n:=by rw [← Nat.pow_add];congr 1;omega
   rw [if_pos rfl,e,← h1,Nat.mul_add,Nat.mul_one,Nat.add_sub_cancel]
 ·rw [Nat.min_eq_right (by omega),List.drop_eq_nil_of_le (by omega)]
  have hz:numB l / 2 ^ n=0:=Nat.div_eq_of_lt (Nat.lt_of_lt_of_le (A2k l) (Nat.pow_le_pow_right (by decide) (by omega)))
  rw [hz,show l.length - n=0 by omega]
  cases f with
  |false=>rw [A2f];simp [numB]
  |true=>have h1:=A96 l.length;simp only [numB,Nat.pow_zero,if_true];omega
theorem Aq3 (l:List Bool) (n:Nat):numB (upsB l n)=numB l * 2 ^ n % 2 ^ l.length:=by
 unfold upsB
 rw [A3s,A2f,List.length_replicate,Nat.zero_add]
 by_cases h:n ≤ l.length
 ·rw [Nat.min_eq_left h,A8y l _ (by omega)]
  have e:(2:Nat) ^ l.length=2 ^ n * 2 ^ (l.length - n):=by rw [← Nat.pow_add];congr 1;omega
  rw [e,Nat.mul_comm (numB l),Nat.mul_mod_mul_left]
 ·rw [Nat.min_eq_right (by omega),show l.length - n=0 by omega]
  have e:(2:Nat) ^ n=2 ^ (n - l.length) * 2 ^ l.length:=by rw [← Nat.pow_add];congr 1;omega
  rw [e,← Nat.mul_assoc,Nat.mul_mod_left];simp [numB]
theorem Ao0 {X B b:Nat} (hB:0 < B) (hb:b ≤ 1):(2 * X + b) % B=(if B ≤ 2 * (X % B) + b then 2 * (X % B) + b - B else 2 * (X % B) + b)∧(2 * X + b) / B=2 * (X / B) + (if B ≤ 2 * (X % B) + b then 1 else 0):=by
 have h1:=Nat.div_add_mod X B
 have h2:=Nat.mod_lt X hB
 have e:2 * X + b=B * (2 * (X / B)) + (2 * (X % B) + b):=by
  have:B * (2 * (X / B))=2 * (B * (X / B)):=by rw [← Nat.mul_assoc,Nat.mul_comm B 2,Nat.mul_assoc]
  omega
 rw [e]
 split
 ·rename_i h
  have e2:2 * (X % B) + b=B * 1 + (2 * (X % B) + b - B):=by omega
  constructor
  ·rw [Nat.mul_add_mod,e2,Nat.mul_add_mod,Nat.mod_eq_of_lt (by omega)];omega
  ·rw [Nat.mul_add_div hB]
   congr 1
   rw [e2,Nat.mul_add_div hB,Nat.div_eq_of_lt (by omega)]
 ·rename_i h
  constructor
  ·rw [Nat.mul_add_mod,Nat.mod_eq_of_lt (by omega)]
  ·rw [Nat.mul_add_div hB]
   congr 1
   exact Nat.div_eq_of_lt (by omega)
theorem Ash (A i:Nat):A / 2 ^ i=2 * (A / 2 ^ (i + 1)) + A / 2 ^ i % 2:=by
 rw [Nat.pow_succ,← Nat.div_div_eq_div_mul];omega
end Go.FI
namespace Go.FI
def biV (b:Bool):FV:=.int .i64 (b.toNat:Nat)
theorem Ae8 (l:List Bool):pures (l.map biV)=true:=A4s (fun _=>rfl) _
theorem Axb (b:Nat) (l:List Bool):lows b (l.map biV)=true:=A5a (fun _=>rfl) _
theorem Auv (l:List Bool):(l.map biV).all FV.ok=true:=all_map (fun _=>rfl) _
theorem Aw6 (l:List Bool):((l.map biV).all fun v=>v.cells.length == 1)=true:=all_map (fun _=>rfl) _
theorem Av2 {l:List Bool} {i:Nat} {d:FV} (h:i < l.length):(l.map biV).getD i d=.int .i64 ((l.getD i false).toNat:Nat):=getD_map _ h
theorem Awv {l:List Bool} {i:Nat} (h:i < l.length):(l.map biV)[i]? = some (.int .i64 ((l.getD i false).toNat:Nat)):=by simp [List.getD,h,biV]
theorem Ari (b:Nat) (l:List Bool) (k:IntKind) (x:Int):lows b (l.map biV ++ [.int k x])=true:=by
 induction l with
 |nil=>rfl
 |cons a l ih=>simp only [List.map_cons,List.cons_append,lows,ih,Bool.and_true];rfl
theorem BiL:type_of% (And.intro Ae8 <| And.intro Axb <| And.intro Ari <| And.intro Auv <| And.intro Aw6 <| And.intro @Av2 @Awv):=And.intro Ae8 <| And.intro Axb <| And.intro Ari <| And.intro Auv <| And.intro Aw6 <| And.intro @Av2 @Awv
def BV (h:Heap) (nx:Nat) (v:FV) (l:List Bool):Prop:=(∃ e:Bool,v=.lst e (l.map biV)) ∨ ∃ id,v=.sref 1 id l.length 0 l.length∧id < nx∧hget h id=some (.row 1 (l.map biV))
def NewB (h:Heap) (nx:Nat) (l:List Bool) (r:FV × Heap × Nat):Prop:=(∃ id,r.1=.sref 1 id l.length 0 l.length∧nx ≤ id∧id < r.2.2∧hget r.2.1 id=some (.row 1 (l.map biV)))∧Ext h r.2.1 nx r.2.2
theorem BV.mono {h h':Heap} {nx nx':Nat} {v:FV} {l:List Bool} (hb:BV h nx v l) (hn:nx ≤ nx') (he:∀ i,i < nx→hget h' i=hget h i):BV h' nx' v l:=by
 rcases hb with h1 | ⟨id,h1,h2,h3⟩
 ·exact .inl h1
 ·exact .inr ⟨id,h1,by omega,by rw [he id h2];exact h3⟩
theorem NewB.bv {h:Heap} {nx:Nat} {l:List Bool} {r:FV × Heap × Nat} (hr:NewB h nx l r):BV r.2.1 r.2.2 r.1 l:=by
 obtain ⟨⟨id,h1,_,h3,h4⟩,_⟩:=hr
 exact .inr ⟨id,h1,h3,h4⟩
theorem A58 {l:List Bool} {i:Nat} (h:i < l.length):l.take (i + 1)=l.take i ++ [l.getD i false]:=take_succ h
end Go.FI
namespace Go.FI
open Go.RowKit Go.ChangeShapes
variable [Sys]
def isAgg (P:Program) (t:TypeId):Bool :=
 match P.underlying t with
 |some (.struct _) | some (.array _ _)=>true
 |_=>false
def mkE (P:Program) (e:TypeId) (cs:List FV):FV:=if isAgg P e=true then .agg cs else cs.headD .undef
def OfT (P:Program):Nat→TypeId→List FV→Prop
 |0,_,_=>False
 |n + 1,t,cs=>cs.length=P.cellsOf t∧(cs.all FV.one=true)∧match P.underlying t with
  |some .bool=>∃ b,cs=[.bool b]
  |some (.int k)=>∃ x,cs=[.int k x]∧k.min ≤ x∧x ≤ k.max
  |some .string=>∃ s,cs=[.str s]∧s.length ≤ maxLen
  |some (.slice e)=>∃ css:List (List FV),cs=[.lst false (css.map (mkE P e))]∧css.length ≤ maxLen∧∀ c ∈ css,OfT P n e c
  |some (.struct fs)=>∀ f ∈ fs.toList,OfT P n f.type ((cs.drop f.offset).take (P.cellsOf f.type))
  |some (.array m e)=>∀ i,i < m→OfT P n e ((cs.drop (i * P.cellsOf e)).take (P.cellsOf e))
  |_=>False
def tile (P:Program):Nat→List Field→Nat→Bool
 |off,[],n=>decide (off=n)
 |off,f::fs,n=>decide (f.offset=off) && tile P (off + P.cellsOf f.type) fs n
def A8e (P:Program) (ts:List TypeId) (t:TypeId):Bool :=
 match P.underlying t with
 |some .bool | some (.int _) | some .string=>decide (P.cellsOf t=1)
 |some (.slice e)=>decide (P.cellsOf t=1) && ts.contains e && decide (0 < P.cellsOf e) && (isAgg P e || decide (P.cellsOf e=1))
 |some (.struct fs)=>(fs.toList.all fun f=>ts.contains f.type) && tile P 0 fs.toList (P.cellsOf t)
 |some (.array m e)=>ts.contains e && decide (P.cellsOf t=m * P.cellsOf e)
 |_=>false
def closed (P:Program) (ts:List TypeId):Bool:=ts.all (A8e P ts)
theorem OfT.length {P:Program} {n:Nat} {t:TypeId} {cs:List FV} (h:OfT P n t cs):cs.length=P.cellsOf t:=by
 cases n with
 |zero=>cases h
 |succ n=>exact h.1
theorem OfT.all1 {P:Program} {n:Nat} {t:TypeId} {cs:List FV} (h:OfT P n t cs):cs.all FV.one=true:=by
 cases n with
 |zero=>cases h
 |succ n=>exact h.2.1
theorem Adu {P:Program} {n:Nat} {e:TypeId} {cs:List FV} (h:OfT P n e cs) (he:isAgg P e=true ∨ P.cellsOf e=1):(mkE P e cs).cells=cs∧(mkE P e cs).ok=true:=by
 unfold mkE
 split
 ·exact ⟨rfl,h.all1⟩
 ·rename_i hn
  have h1:=h.length
  have h2:=h.all1
  rcases he with he | he
  ·exact absurd he hn
  ·rw [he] at h1
   match cs,h1 with
   |[x],_ =>
    simp only [List.all_cons,List.all_nil,Bool.and_true] at h2
    cases x<;>first | (exact ⟨rfl,rfl⟩) | (simp [FV.one] at h2)
theorem pick {α:Type} {p:Nat→α→Prop}:∀ (n:Nat),(∀ i,i < n→∃ v,p i v)→∃ l:List α,l.length=n∧∀ i v,l[i]? = some v→p i v:=by
 intro n
 induction n with
 |zero=>intro _;exact ⟨[],rfl,by simp⟩
 |succ n ih =>
  intro h
  obtain ⟨l,h1,h2⟩:=ih fun i hi=>h i (by omega)
  obtain ⟨v,hv⟩:=h n (by omega)
  refine ⟨l ++ [v],by simp [h1],fun i u hu=>?_⟩
  rw [List.getElem?_append] at hu
  split at hu
  ·exact h2 i u hu
  ·rename_i hi
   have:i=n:=by
    have:=(List.getElem?_eq_some_iff.1 hu).1
    simp at this;omega
   subst this
   simp [h1] at hu
   subst hu
   exact hv
theorem mapM_each {α β:Type} {f:α→Option β}:∀ {l:List α} {ys:List β},l.mapM f=some ys→∀ x ∈ l,∃ y,f x=some y:=by
 intro l
 induction l with
 |nil=>intro ys _ x hx;cases hx
 |cons a l ih =>
  intro ys h x hx
  rw [List.mapM_cons] at h
  cases ha:f a with
  |none=>rw [ha] at h;cases h
  |some y =>
   rw [ha] at h
   cases hl:l.mapM f with
   |none=>rw [hl] at h;cases h
   |some zs =>
    cases hx with
    |head=>exact ⟨y,ha⟩
    |tail _ hx=>exact ih hl x hx
theorem A99 {w:World} {a:Addr} {v:Value} (h:w.cell? a=some v):w.cell? ⟨a.block,a.off,none⟩=some v∧a.block < w.heap.size:=by
 unfold World.cell? at h ⊢
 split at h
 ·rename_i c _ _ hb
  split at h
  ·cases h
  ·simp only [hb]
   refine ⟨h,?_⟩
   exact (Array.getElem?_eq_some_iff.1 hb).1
 ·cases h
theorem Abr (a:Addr) (n:Nat):(a.add n).block=a.block∧(a.add n).off=a.off + n:=by
 unfold Addr.add
 split
 ·rename_i h;subst h;exact ⟨rfl,rfl⟩
 ·exact ⟨rfl,rfl⟩
theorem Ajs {g:Gh} {w:World} {base es b o:Nat} {a:Addr} (hb:a.block=b) (ho:a.off=o):∀ (css:List (List FV)) (i:Nat),
  (∀ j v,css[j]? = some v→∃ ci,w.cells? base (a.add ((i + j) * es)) es=some ci∧RL g w v ci) →
  ∃ ws,RL g w css.flatten ws∧∀ (j:Nat) v,ws[j]? = some v→w.cell? ⟨b,o + i * es + j,none⟩=some v:=by
 intro css
 induction css with
 |nil=>intro i _;exact ⟨[],.nil,by simp⟩
 |cons c css ih =>
  intro i h
  obtain ⟨ci,h1,h2⟩:=h 0 c rfl
  obtain ⟨ws,h3,h4⟩:=ih (i + 1) fun j v hv=>by
   obtain ⟨cj,k1,k2⟩:=h (j + 1) v (by simpa using hv)
   exact ⟨cj,by rw [show i + 1 + j=i + (j + 1) by omega];exact k1,k2⟩
  obtain ⟨_,h5,h6⟩:=World.cells?_some h1
  refine ⟨ci ++ ws,RL.append h2 h3,fun j v hv=>?_⟩
  rw [List.getElem?_append] at hv
  split at hv
  ·rename_i hj
   have h7:=h6 j (by omega)
   rw [hv] at h7
   have h8:=(A99 h7).1
   rw [(Abr _ _).1,(Abr _ _).2,(Abr _ _).1,(Abr _ _).2,hb,ho] at h8
   simpa using h8
  ·rename_i hj
   have:=h4 (j - ci.length) v hv
   rw [h5] at this
   have e:o + (i + 1) * es + (j - es)=o + i * es + j:=by
    rw [h5] at hj
    rw [Nat.add_mul]
    omega
   rw [e] at this
   exact this
theorem Adf {H:Type} {enc:TypeId × Value→H} {P:Program} {w:World} {base:Nat} {spare:Nat→Bool} {held:Bool} {n:Nat} {t:TypeId} {cs:List Value} {x:DataW H × List MemPlace} (hu:P.underlying t=some .string) (h:DataW.trod enc P w base spare held n t cs=some x) :
  ∃ s,cs=[.string s]∧s.size ≤ maxLen∧x=(.lit (.string s.data.toList),[]):=by
 cases n with
 |zero=>simp [DataW.trod] at h
 |succ n =>
  unfold DataW.trod at h
  rw [hu] at h
  rcases cs with _ | ⟨v,_ | ⟨v2,r⟩⟩
  ·simp at h
  ·cases v<;>simp only at h<;>try (first | (cases h;done) | (simp at h;done))
   split at h
   ·rename_i hs
    cases h
    exact ⟨_,rfl,hs,rfl⟩
   ·cases h
  ·cases v<;>simp at h
theorem Af4 {H:Type} {enc:TypeId × Value→H} {P:Program} {w:World} {base:Nat} {spare:Nat→Bool} {held:Bool} {n:Nat} {t e:TypeId} {cs:List Value} {x:DataW H × List MemPlace} (hu:P.underlying t=some (.slice e)) (h:DataW.trod enc P w base spare held (n + 1) t cs=some x) :
  cs=[.slice none 0 0] ∨ ∃ (a:Addr) (len cap:Nat) (els:List (DataW H × List MemPlace)),cs=[.slice (some a) len cap]∧len ≤ cap∧cap ≤ maxLen ∧
   (List.range len).mapM (fun i=>(w.cells? base (a.add (i * P.cellsOf e)) (P.cellsOf e)).bind (DataW.trod enc P w base spare held n e))=some els:=by
 unfold DataW.trod at h
 rw [hu] at h
 rcases cs with _ | ⟨v,_ | ⟨v2,r⟩⟩
 ·simp at h
 ·cases v
  case slice o len cap =>
   cases o with
   |none=>cases len<;>cases cap<;>first | exact .inl rfl | (simp at h)
   |some a =>
    simp only at h
    split at h
    ·rename_i hx
     refine .inr ⟨a,len,cap,?_⟩
     cases hm:(List.range len).mapM (fun i=>(w.cells? base (a.add (i * P.cellsOf e)) (P.cellsOf e)).bind (DataW.trod enc P w base spare held n e)) with
     |none=>rw [hm] at h;cases h
     |some els=>exact ⟨els,rfl,hx.2.1,hx.2.2,rfl⟩
    ·cases h
  all_goals simp at h
 ·cases v<;>simp at h
theorem opens {H:Type} {enc:TypeId × Value→H} {P:Program} {w:World} {base:Nat} {spare:Nat→Bool} {held:Bool} {Z:Nat→Prop} (hZ:∀ b,b < w.heap.size→Z b) {ts:List TypeId} (hcl:closed P ts=true) :
  ∀ (n:Nat) (t:TypeId) (cs:List Value) (d:DataW H) (ps:List MemPlace),t ∈ ts→DataW.trod enc P w base spare held n t cs=some (d,ps) →
   ∃ vs,OfT P n t vs∧RL ⟨fun _=>none,Z⟩ w vs cs:=by
 intro n
 induction n with
 |zero=>intro t cs d ps _ h;simp [DataW.trod] at h
 |succ n ih =>
  intro t cs d ps ht h
  have hc:A8e P ts t=true:=by
   unfold closed at hcl
   exact List.all_eq_true.1 hcl t ht
  unfold A8e at hc
  have h0:=h
  unfold DataW.trod at h
  cases hu:P.underlying t with
  |none=>rw [hu] at hc;cases hc
  |some u =>
   rw [hu] at hc h
   cases u with
   |bool =>
    simp only [decide_eq_true_eq] at hc
    obtain ⟨b,rfl,_⟩:=DataW.trod_bool hu h0
    exact ⟨[.bool b],⟨by simpa using hc.symm,rfl,by rw [hu];exact ⟨b,rfl⟩⟩,.cons _ _ _ _ (.bool b) .nil⟩
   |int k =>
    simp only [decide_eq_true_eq] at hc
    obtain ⟨x,rfl,_,hw⟩:=DataW.trod_int hu h0
    have hb:k.min ≤ x∧x ≤ k.max:=by simpa [Lit.wf] using hw
    exact ⟨[.int k x],⟨by simpa using hc.symm,rfl,by rw [hu];exact ⟨x,rfl,hb⟩⟩,.cons _ _ _ _ (.int k x) .nil⟩
   |string =>
    simp only [decide_eq_true_eq] at hc
    obtain ⟨s,rfl,hs,_⟩:=Adf hu h0
    exact ⟨[.str s.data.toList],⟨by simpa using hc.symm,rfl,by rw [hu];exact ⟨_,rfl,by simpa using hs⟩⟩,.cons _ _ _ _ (.str s) .nil⟩
   |slice e =>
    simp only [Bool.and_eq_true,decide_eq_true_eq,Bool.or_eq_true,List.contains_iff_mem] at hc
    obtain ⟨⟨⟨h1,he⟩,hpos⟩,hag⟩:=hc
    rcases Af4 hu h0 with rfl | ⟨a,len,cap,els,rfl,hx2,hx3,hm⟩
    ·exact ⟨[.lst false []],⟨by simpa using h1.symm,rfl,by rw [hu];exact ⟨[],rfl,by simp,by simp⟩⟩,.cons _ _ _ _ (.lst0 false none 0 (by simp)) .nil⟩
    ·have hel:∀ i,i < len→∃ v,OfT P n e v∧∃ ci,w.cells? base (a.add (i * P.cellsOf e)) (P.cellsOf e)=some ci∧RL ⟨fun _=>none,Z⟩ w v ci:=by
      intro i hi
      obtain ⟨y,hy⟩:=mapM_each hm i (by simpa using hi)
      cases hcs:w.cells? base (a.add (i * P.cellsOf e)) (P.cellsOf e) with
      |none=>rw [hcs] at hy;cases hy
      |some ci =>
       rw [hcs] at hy
       obtain ⟨v,k1,k2⟩:=ih e ci y.1 y.2 he hy
       exact ⟨v,k1,ci,rfl,k2⟩
     obtain ⟨css,hlen,hcss⟩:=pick len hel
     have hall:∀ c ∈ css,OfT P n e c:=fun c hc=>by
      obtain ⟨i,hi⟩:=List.getElem?_of_mem hc
      exact (hcss i c hi).1
     refine ⟨[.lst false (css.map (mkE P e))],⟨by simpa using h1.symm,rfl,by rw [hu];exact ⟨css,rfl,by omega,hall⟩⟩,.cons _ _ _ _ ?_ .nil⟩
     by_cases h0:css=[]
     ·subst h0
      simp at hlen
      subst hlen
      exact .lst0 false (some a) cap (by simp)
     ·obtain ⟨ws,hw1,hw2⟩:=Ajs (g:=⟨fun _=>none,Z⟩) (w:=w) (base:=base) (es:=P.cellsOf e) (a:=a) rfl rfl css 0 fun j v hv=>by
       obtain ⟨_,ci,k1,k2⟩:=hcss j v hv
       exact ⟨ci,by simpa using k1,k2⟩
      have hfl:(css.map (mkE P e)).flatMap FV.cells=css.flatten:=by
       clear hw1 hw2 hcss hel hm h0 hlen
       induction css with
       |nil=>rfl
       |cons c css ihc =>
        simp only [List.map_cons,List.flatMap_cons,List.flatten_cons]
        rw [(Adu (hall c (by simp)) hag).1,ihc fun c hc=>hall c (by simp [hc])]
      have hsp:a=⟨a.block,a.off,none⟩∧a.block < w.heap.size:=by
       obtain ⟨c0,r0,rfl⟩:∃ c0 r0,css=c0::r0:=by
        cases css with
        |nil=>exact absurd rfl h0
        |cons c r=>exact ⟨c,r,rfl⟩
       obtain ⟨hh,ci,k1,k2⟩:=hcss 0 c0 rfl
       obtain ⟨_,k3,k4⟩:=World.cells?_some k1
       have k5:=k4 0 hpos
       simp only [Nat.zero_mul,Addr.add,if_true] at k5
       have k6:∃ x,ci[0]? = some x:=⟨ci[0],List.getElem?_eq_getElem (by omega)⟩
       obtain ⟨x,k6⟩:=k6
       rw [k6] at k5
       refine ⟨?_,(A99 k5).2⟩
       unfold World.cell? at k5
       split at k5
       ·split at k5
        ·cases k5
        ·rename_i hs
         obtain ⟨b,o,s⟩:=a
         cases s with
         |none=>rfl
         |some s=>simp at hs
       ·cases k5
      have hl:len=(css.map (mkE P e)).length:=by simp [hlen]
      rw [hl,hsp.1]
      refine .lst false (css.map (mkE P e)) a.block a.off (P.cellsOf e) cap ws (by simpa using h0) (by simp) (by rw [← hl];exact hx2) (hZ _ hsp.2) hpos ?_ (by rw [hfl];exact hw1) fun j v hv=>by simpa using hw2 j v hv
      intro x hx
      obtain ⟨c,hc,rfl⟩:=List.mem_map.1 hx
      have:=Adu (hall c hc) hag
      exact ⟨by rw [this.1];exact (hall c hc).length,this.2⟩
   |struct fs =>
    simp only [Bool.and_eq_true,List.all_eq_true,List.contains_iff_mem] at hc
    obtain ⟨hf,htile⟩:=hc
    simp only at h
    split at h
    ·rename_i hlen
     cases hm:fs.toList.mapM (fun f=>DataW.trod enc P w base spare held n f.type ((cs.drop f.offset).take (P.cellsOf f.type))) with
     |none=>rw [hm] at h;cases h
     |some xs =>
      have hall:=mapM_each hm
      have key:∀ (fl:List Field) (off:Nat),(∀ f ∈ fl,f.type ∈ ts∧∃ y,DataW.trod enc P w base spare held n f.type ((cs.drop f.offset).take (P.cellsOf f.type))=some y)→tile P off fl (P.cellsOf t)=true→off ≤ cs.length →
        ∃ vs,RL ⟨fun _=>none,Z⟩ w vs (cs.drop off)∧vs.all FV.one=true∧∀ f ∈ fl,off ≤ f.offset∧OfT P n f.type ((vs.drop (f.offset - off)).take (P.cellsOf f.type)):=by
       intro fl
       induction fl with
       |nil =>
        intro off _ ht' hoff
        simp only [tile,decide_eq_true_eq] at ht'
        refine ⟨[],?_,rfl,by simp⟩
        rw [List.drop_eq_nil_of_le (by omega)]
        exact .nil
       |cons f fl ihf =>
        intro off hfl ht' hoff
        simp only [tile,Bool.and_eq_true,decide_eq_true_eq] at ht'
        obtain ⟨ho,ht'⟩:=ht'
        obtain ⟨hft,y,hy⟩:=hfl f (by simp)
        obtain ⟨v,hv1,hv2⟩:=ih _ _ y.1 y.2 hft hy
        have hvl:=hv1.length
        have hl2:=hv2.length
        rw [List.length_take,List.length_drop] at hl2
        obtain ⟨vs,k1,k2,k3⟩:=ihf (off + P.cellsOf f.type) (fun g hg=>hfl g (by simp [hg])) ht' (by omega)
        refine ⟨v ++ vs,?_,by rw [List.all_append,hv1.all1,k2];rfl,?_⟩
        ·have e:cs.drop off=(cs.drop f.offset).take (P.cellsOf f.type) ++ cs.drop (off + P.cellsOf f.type):=by
          rw [ho,← List.drop_drop]
          exact (List.take_append_drop _ _).symm
         rw [e]
         exact RL.append hv2 k1
        ·intro g hg
         cases hg with
         |head =>
          refine ⟨by omega,?_⟩
          rw [ho,Nat.sub_self,List.drop_zero,← hvl,List.take_left]
          exact hv1
         |tail _ hg =>
          obtain ⟨k4,k5⟩:=k3 g hg
          refine ⟨by omega,?_⟩
          rw [List.drop_append,List.drop_eq_nil_of_le (by omega),List.nil_append,show g.offset - off - v.length=g.offset - (off + P.cellsOf f.type) by omega]
          exact k5
      obtain ⟨vs,k1,k2,k3⟩:=key fs.toList 0 (fun f hf'=>⟨hf f hf',hall f hf'⟩) htile (Nat.zero_le _)
      refine ⟨vs,⟨?_,k2,by rw [hu];exact fun f hf'=>by simpa using (k3 f hf').2⟩,by simpa using k1⟩
      rw [k1.length];simpa using hlen
    ·cases h
   |array m e =>
    simp only [Bool.and_eq_true,decide_eq_true_eq,List.contains_iff_mem] at hc
    obtain ⟨he,hsz⟩:=hc
    simp only at h
    split at h
    ·rename_i hlen
     cases hm:(List.range m).mapM (fun i=>DataW.trod enc P w base spare held n e ((cs.drop (i * P.cellsOf e)).take (P.cellsOf e))) with
     |none=>rw [hm] at h;cases h
     |some xs =>
      have key:∀ (k:Nat),k ≤ m→∃ vs,RL ⟨fun _=>none,Z⟩ w vs (cs.take (k * P.cellsOf e))∧vs.all FV.one=true∧vs.length=k * P.cellsOf e∧∀ i,i < k→OfT P n e ((vs.drop (i * P.cellsOf e)).take (P.cellsOf e)):=by
       intro k
       induction k with
       |zero=>intro _;exact ⟨[],by rw [Nat.zero_mul,List.take_zero];exact .nil,rfl,by simp,by simp⟩
       |succ k ihk =>
        intro hk
        obtain ⟨vs,k1,k2,k3,k4⟩:=ihk (by omega)
        obtain ⟨y,hy⟩:=mapM_each hm k (List.mem_range.2 (by omega))
        obtain ⟨v,hv1,hv2⟩:=ih _ _ y.1 y.2 he hy
        have hvl:=hv1.length
        refine ⟨vs ++ v,?_,by rw [List.all_append,hv1.all1,k2];rfl,by rw [List.length_append,k3,hvl,Nat.add_mul,Nat.one_mul],fun i hi=>?_⟩
        ·rw [Nat.add_mul,Nat.one_mul,List.take_add]
         exact RL.append k1 hv2
        ·by_cases hik:i < k
         ·have hle:i * P.cellsOf e + P.cellsOf e ≤ vs.length:=by
           rw [k3,← Nat.succ_mul]
           exact Nat.mul_le_mul_right _ hik
          rw [List.drop_append_of_le_length (by omega),List.take_append_of_le_length (by rw [List.length_drop];omega)]
          exact k4 i hik
         ·have:i=k:=by omega
          subst this
          rw [← k3,List.drop_left,← hvl,List.take_length]
          exact hv1
      obtain ⟨vs,k1,k2,k3,k4⟩:=key m (Nat.le_refl _)
      refine ⟨vs,⟨by rw [k3,hsz],k2,by rw [hu];exact k4⟩,?_⟩
      rw [List.take_of_length_le (by omega)] at k1
      exact k1
    ·cases h
   |_=>cases hc
end Go.FI
namespace Go.FI
open Go.RowKit Go.ChangeShapes
variable [Sys]
def OfTs (P:Program):List TypeId→List FV→Prop
 |[],[]=>True
 |t::ts,v::vs=>(∃ n cs,OfT P n t cs∧v=mkE P t cs)∧OfTs P ts vs
 |_,_=>False
theorem Ayf {g:Gh} {w:World} {P:Program} {b n:Nat} {t:TypeId} {vs:List FV} {v:Value} (hc:isAgg P t=true ∨ P.cellsOf t=1) (hok:Value.okWide P w .any b t v) (hv:OfT P n t vs) (hr:RL g w vs v.cells.toList):R g w (mkE P t vs) v:=by
 unfold mkE
 split
 ·rename_i ha
  have:∃ cs,v=.agg cs:=by
   unfold isAgg at ha
   unfold Value.okWide at hok
   split at ha
   ·rename_i h;rw [h] at hok;obtain ⟨cs,h,_⟩:=hok;exact ⟨cs,h⟩
   ·rename_i h;rw [h] at hok;obtain ⟨cs,h,_⟩:=hok;exact ⟨cs,h⟩
   ·cases ha
  obtain ⟨cs,rfl⟩:=this
  have:=R.agg vs cs.toList hr
  simpa using this
 ·rename_i ha
  have h1:vs.length=1:=by
   rcases hc with hc | hc
   ·exact absurd hc ha
   ·rw [hv.length,hc]
  match vs,h1 with
  |[x],_ =>
   have:v.cells=#[v]:=by
    cases v<;>try rfl
    exfalso
    unfold Value.okWide Cell.okWide Cell.ok at hok
    unfold isAgg at ha
    split at hok
    ·rename_i h;rw [h] at ha;simp at ha
    ·rename_i h;rw [h] at ha;simp at ha
    ·split at hok<;>simp_all
   rw [this] at hr
   cases hr with | cons _ _ _ _ hx _=>exact hx
theorem Ai8 {P:Program} {ts:List TypeId} (hcl:closed P ts=true) {t:TypeId} (ht:t ∈ ts):isAgg P t=true ∨ P.cellsOf t=1:=by
 have hc:A8e P ts t=true:=by
  unfold closed at hcl
  exact List.all_eq_true.1 hcl t ht
 unfold A8e at hc
 unfold isAgg
 split at hc<;>rename_i h<;>simp_all
theorem Aov {H:Type} {enc:TypeId × Value→H} {P:Program} {w:World} {spare:Nat→Bool} {held:Bool} {ts:List TypeId} (hcl:closed P ts=true) :
  ∀ (params:List TypeId) (vs:List Value) (ds:List (DataW H)) (ps:List MemPlace),(∀ t ∈ params,t ∈ ts)→(∀ (j:Nat) t v,params[j]? = some t→vs[j]? = some v→∃ b,Value.okWide P w .any b t v) →
   DataW.TrodAll enc P w 0 spare held params vs ds ps→∃ fs,OfTs P params fs∧RL ⟨fun _=>none,(· < w.heap.size)⟩ w fs vs:=by
 intro params
 induction params with
 |nil =>
  intro vs ds ps _ _ h
  cases vs with
  |nil=>exact ⟨[],trivial,.nil⟩
  |cons v vs=>cases ds<;>cases h
 |cons t params ih =>
  intro vs ds ps hts hok h
  cases vs with
  |nil=>cases ds<;>cases h
  |cons v vs =>
   cases ds with
   |nil=>cases h
   |cons d ds =>
    obtain ⟨p,q,⟨n,h1⟩,h2,rfl⟩:=h
    obtain ⟨fs,h3,h4⟩:=ih vs ds q (fun t ht=>hts t (by simp [ht])) (fun j t v hj hv=>hok (j + 1) t v (by simpa using hj) (by simpa using hv)) h2
    obtain ⟨b,hb⟩:=hok 0 t v rfl rfl
    obtain ⟨cs,h5,h6⟩:=opens (Z:=(· < w.heap.size)) (fun b h=>h) hcl n t _ d p (hts t (by simp)) h1
    exact ⟨mkE P t cs::fs,⟨⟨n,cs,h5,rfl⟩,h3⟩,.cons _ _ _ _ (Ayf (Ai8 hcl (hts t (by simp))) hb h5 h6) h4⟩
theorem Abv {H:Type} {enc:TypeId × Value→H} {P:Program} (hl:laidOutB P=true) {W W':World} (hb:Below W.heap.size W W') :
  ∀ (params:List TypeId) (vs:List Value) (ds:List (DataW H)) (ps:List MemPlace),(params.all fun t=>P.readableRec t && decide (t < P.types.size))=true→(∀ x ∈ ps,x.block < W.heap.size) →
   DataW.TrodAll enc P W 0 (fun _=>true) true params vs ds ps→DataW.TrodAll enc P W' 0 (fun b=>decide (b < W.heap.size)) true params vs ds ps:=by
 intro params
 induction params with
 |nil =>
  intro vs ds ps _ _ h
  cases vs<;>cases ds<;>exact h
 |cons t params ih =>
  intro vs ds ps hp hlt h
  simp only [List.all_cons,Bool.and_eq_true,decide_eq_true_eq] at hp
  cases vs with
  |nil=>cases ds<;>cases h
  |cons v vs =>
   cases ds with
   |nil=>cases h
   |cons d ds =>
    obtain ⟨p,q,h1,h2,rfl⟩:=h
    exact ⟨p,q,Below.trod hl hp.1.1 hp.1.2 h1 hb (fun x hx=>hlt x (by simp [hx])),ih vs ds q hp.2 (fun x hx=>hlt x (by simp [hx])) h2,rfl⟩
theorem Abq {H:Type} {enc:TypeId × Value→H} {P:Program} {W:World} {base:Nat} {args:Array Value} {ds gs:List (DataW H)} {before:List MemPlace} {f:Func} {k:Nat} {s:ChangeSpec} {ts:List TypeId} {tb:TypeId}
  (hcl:closed P ts=true) (hts:(f.params.toList.all ts.contains)=true) (hlaid:laidOutB P=true) (hrd:(f.params.toList.all fun t=>P.readableRec t && decide (t < P.types.size))=true) (hr:f.resultTypes=#[tb]) (hb:P.underlying tb=some .bool) (hvars:s.vars=[])
  (hfn:∀ ds:List (DataW H),ds.length=f.params.size→(s.fn H ds).results=[.lit (.bool true)]∧(s.fn H ds).args=ds∧(s.fn H ds).vars=[])
  (hiso:∀ fs,OfTs P f.params.toList fs→IsoCall P k fs (.bool true))
  (hgl:GlOk ⟨fun _=>none,(· < W.heap.size)⟩ W) (hval:∀ (j:Nat) t v,f.params[j]? = some t→args[j]? = some v→Value.okWide P W .any base t v)
  (hW:DataW.Whole enc P f.params.toList s.vars false W args.toList ds gs before) :
  Calls P k args W fun e W'=>∃ v,e=.returned v∧s.post enc P f false true false false W args v W':=by
 have hlt:∀ x ∈ before,x.block < W.heap.size:=fun x hx=>by simpa using hW.lt x hx
 obtain ⟨p,q,hA,hV,rfl,hfz,hnd⟩:=hW
 have hVn:gs=[]∧q=[]:=by
  rw [hvars] at hV
  cases gs with
  |nil=>exact ⟨rfl,hV⟩
  |cons=>cases hV
 obtain ⟨rfl,rfl⟩:=hVn
 obtain ⟨fs,h1,h2⟩:=Aov hcl f.params.toList args.toList ds p (fun t ht=>by simpa using List.all_eq_true.1 hts t ht)
  (fun j t v hj hv=>⟨base,hval j t v (by simpa using hj) (by simpa using hv)⟩) hA
 have hc:=hiso fs h1 _ W args.toList (fun b h=>h) hgl h2
 have hlen:ds.length=f.params.size:=by
  have:∀ (params:List TypeId) (vs:List Value) (ds:List (DataW H)) (ps:List MemPlace),DataW.TrodAll enc P W 0 (fun _=>true) true params vs ds ps→ds.length=params.length:=by
   intro params
   induction params with
   |nil=>intro vs ds ps h;cases vs<;>cases ds<;>first | rfl | cases h
   |cons t params ih =>
    intro vs ds ps h
    cases vs with
    |nil=>cases ds<;>cases h
    |cons v vs =>
     cases ds with
     |nil=>cases h
     |cons d ds =>
      obtain ⟨_,_,_,h2,_⟩:=h
      simp [ih vs ds _ h2]
  simpa using this _ _ _ _ hA
 obtain ⟨hf1,hf2,hf3⟩:=hfn ds hlen
 have hargs:args.toList.toArray=args:=by simp
 rw [hargs] at hc
 refine hc.mono fun e W' ⟨x,he,hbelow,hx⟩=>?_
 subst he
 cases hx with
 |bool =>
 refine ⟨.bool true,rfl,ds,[],p ++ [],[],p,[],⟨p,[],hA,hV,rfl,hfz,hnd⟩,?_,?_,?_,?_,fun h=>by cases h⟩
 ·rw [List.append_nil,hf1,hr]
  exact trodAll_cons_mk (shut_bool hb _) trodAll_mk0
 ·rw [List.append_nil,hf2]
  exact Abv hlaid hbelow _ _ _ _ hrd (fun x hx=>hlt x (by simp [hx])) hA
 ·rw [List.append_nil,hf3,hvars]
  rfl
 ·exact hbelow.frame _
end Go.FI
namespace Go.FI
variable [Sys]
def A4y (P:Program) (t:TypeId):Option TypeId:=match P.underlying t with | some (.slice e)=>some e | _=>none
def kindOf (P:Program) (t:TypeId):Option IntKind:=match P.underlying t with | some (.int k)=>some k | _=>none
def strT (P:Program) (t:TypeId):Bool:=match P.underlying t with | some .string=>true | _=>false
def Asb (P:Program) (t:TypeId):Bool:=match P.underlying t with | some .bool=>true | _=>false
def A5s (P:Program) (t:TypeId) (i:Nat):Option (TypeId × Nat × Nat):=match P.underlying t with | some (.struct fs)=>fs.toList[i]?.map fun f=>(f.type,f.offset,P.cellsOf f.type) | _=>none
section
variable {P:Program} {n:Nat} {t:TypeId} {cs:List FV}
theorem OfT.slice {e:TypeId} (h:OfT P n t cs) (he:A4y P t=some e):∃ (m:Nat) (css:List (List FV)),cs=[.lst false (css.map (mkE P e))]∧css.length ≤ maxLen∧∀ c ∈ css,OfT P m e c:=by
 cases n with
 |zero=>cases h
 |succ n =>
  obtain ⟨_,_,h⟩:=h
  unfold A4y at he
  split at he
  ·rename_i hu
   cases he
   rw [hu] at h
   obtain ⟨css,h1,h2,h3⟩:=h
   exact ⟨n,css,h1,h2,h3⟩
  ·cases he
theorem OfT.int {k:IntKind} (h:OfT P n t cs) (hk:kindOf P t=some k):∃ x,cs=[.int k x]∧k.min ≤ x∧x ≤ k.max:=by
 cases n with
 |zero=>cases h
 |succ n =>
  obtain ⟨_,_,h⟩:=h
  unfold kindOf at hk
  split at hk
  ·rename_i hu
   cases hk
   rw [hu] at h
   exact h
  ·cases hk
theorem OfT.str (h:OfT P n t cs) (hk:strT P t=true):∃ s,cs=[.str s]∧s.length ≤ maxLen:=by
 cases n with
 |zero=>cases h
 |succ n =>
  obtain ⟨_,_,h⟩:=h
  unfold strT at hk
  split at hk
  ·rename_i hu
   rw [hu] at h
   exact h
  ·cases hk
theorem OfT.bool (h:OfT P n t cs) (hk:Asb P t=true):∃ b,cs=[.bool b]:=by
 cases n with
 |zero=>cases h
 |succ n =>
  obtain ⟨_,_,h⟩:=h
  unfold Asb at hk
  split at hk
  ·rename_i hu
   rw [hu] at h
   exact h
  ·cases hk
theorem OfT.field (h:OfT P n t cs) (i:Nat) {u off k:Nat} (hf:A5s P t i=some (u,off,k)):∃ m,OfT P m u ((cs.drop off).take k):=by
 cases n with
 |zero=>cases h
 |succ n =>
  obtain ⟨_,_,h⟩:=h
  unfold A5s at hf
  split at hf
  ·rename_i fs hu
   rw [hu] at h
   cases hx:fs.toList[i]? with
   |none=>rw [hx] at hf;cases hf
   |some f =>
    rw [hx] at hf
    cases hf
    exact ⟨n,h f (List.mem_of_getElem? hx)⟩
  ·cases hf
theorem OfT.len (h:OfT P n t cs) {k:Nat} (hk:P.cellsOf t=k):cs.length=k:=h.length.trans hk
theorem A67 {α β:Type} {mk:β→FV} {enc:α→FV} {good:α→Prop}:∀ {css:List β},(∀ c ∈ css,∃ a,mk c=enc a∧good a)→∃ l:List α,css.map mk=l.map enc∧l.length=css.length∧∀ a ∈ l,good a:=by
 intro css
 induction css with
 |nil=>intro _;exact ⟨[],rfl,rfl,by simp⟩
 |cons c css ih =>
  intro h
  obtain ⟨a,h1,h2⟩:=h c (by simp)
  obtain ⟨l,h3,h4,h5⟩:=ih fun c hc=>h c (by simp [hc])
  exact ⟨a::l,by simp [h1,h3],by simp [h4],by simpa using ⟨h2,h5⟩⟩
theorem Afz (ha:isAgg P t=true):mkE P t cs=.agg cs:=if_pos ha
theorem A71 (ha:isAgg P t=false) {v:FV}:mkE P t [v]=v:=by
 unfold mkE
 rw [ha]
 rfl
theorem OfT.bools {e:TypeId} (h:OfT P n t cs) (he:A4y P t=some e) (hk:Asb P e=true) (ha:isAgg P e=false):∃ l:List Bool,cs=[.lst false (l.map .bool)]∧l.length ≤ maxLen:=by
 obtain ⟨m,css,rfl,h2,h3⟩:=h.slice he
 obtain ⟨l,h4,h5,_⟩:=A67 (css:=css) (mk:=mkE P e) (enc:=.bool) (good:=fun _=>True) fun c hc=>by
  obtain ⟨x,rfl⟩:=(h3 c hc).bool hk
  exact ⟨x,A71 ha,trivial⟩
 exact ⟨l,by rw [h4],by omega⟩
theorem OfT.pairs {e u v:TypeId} {α β:Type} {f:α→FV} {g:β→FV} {ga:α→Prop} {gb:β→Prop} (h:OfT P n t cs) (he:A4y P t=some e) (ha:isAgg P e=true) (hl:P.cellsOf e=2) (h0:A5s P e 0=some (u,0,1)) (h1:A5s P e 1=some (v,1,1))
  (hu:∀ m c,OfT P m u c→∃ a,c=[f a]∧ga a) (hv:∀ m c,OfT P m v c→∃ b,c=[g b]∧gb b) :
  ∃ l:List (α × β),cs=[.lst false (l.map fun p=>.agg [f p.1,g p.2])]∧l.length ≤ maxLen∧∀ p ∈ l,ga p.1∧gb p.2:=by
 obtain ⟨m,css,rfl,h2,h3⟩:=h.slice he
 obtain ⟨l,h4,h5,h6⟩:=A67 (css:=css) (mk:=mkE P e) (enc:=fun p:α × β=>.agg [f p.1,g p.2]) (good:=fun p=>ga p.1∧gb p.2) fun c hc=>by
  have hc':=h3 c hc
  have hlen:=hc'.len hl
  obtain ⟨_,h7⟩:=hc'.field 0 h0
  obtain ⟨_,h8⟩:=hc'.field 1 h1
  match c,hlen with
  |[x,y],_ =>
   obtain ⟨a,e1,g1⟩:=hu _ _ h7
   obtain ⟨b,e2,g2⟩:=hv _ _ h8
   simp at e1 e2
   exact ⟨(a,b),by rw [Afz ha,e1,e2],g1,g2⟩
 exact ⟨l,by rw [h4],by omega,h6⟩
end
end Go.FI
namespace Go.FI
open Go.RowKit Go.ChangeShapes
mutual
def Acm {H:Type}:DataW H→Option (List FV)
 |.lit (.int k n)=>some [.int k n]
 |.lit (.string s)=>some [.str s]
 |.lit (.bool b)=>some [.bool b]
 |.agg ds=>A7q ds
 |_=>none
def A7q {H:Type}:List (DataW H)→Option (List FV)
 |[]=>some []
 |d::r=>bnd (Acm d) fun a=>bnd (A7q r) fun b=>some (a ++ b)
end
def Amo (P:Program) (ts:List TypeId):Bool:=ts.all fun t=>match P.underlying t with
 |some .bool=>true
 |some (.int _)=>true
 |some .string=>true
 |some (.struct fs)=>(fs.toList.all fun f=>ts.contains f.type) && tile P 0 fs.toList (P.cellsOf t)
 |some (.array m e)=>ts.contains e && decide (P.cellsOf t=m * P.cellsOf e)
 |_=>false
variable [Sys]
theorem Aic {H:Type} {enc:TypeId × Value→H} {P:Program} {w:World} {base:Nat} {spare:Nat→Bool} {held:Bool} {g:Gh} {ts:List TypeId} (hcl:Amo P ts=true) :
  ∀ (n:Nat) (t:TypeId) (cs:List Value) (d:DataW H) (ps:List MemPlace),t ∈ ts→DataW.trod enc P w base spare held n t cs=some (d,ps)→∀ vs,Acm d=some vs→RL g w vs cs:=by
 intro n
 induction n with
 |zero=>intro t cs d ps _ h;simp [DataW.trod] at h
 |succ n ih =>
  intro t cs d ps ht h vs hv
  have hc:=List.all_eq_true.1 hcl t ht
  have h0:=h
  cases hu:P.underlying t with
  |none=>rw [hu] at hc;cases hc
  |some u =>
   rw [hu] at hc
   cases u with
   |bool =>
    obtain ⟨b,rfl,hd⟩:=DataW.trod_bool hu h0
    cases hd
    simp only [Acm,Option.some.injEq] at hv;subst hv
    exact .cons _ _ _ _ (.bool b) .nil
   |int k =>
    obtain ⟨x,rfl,hd,hw⟩:=DataW.trod_int hu h0
    cases hd
    simp only [Acm,Option.some.injEq] at hv;subst hv
    exact .cons _ _ _ _ (.int k x) .nil
   |string =>
    obtain ⟨s,rfl,hs,hd⟩:=Adf hu h0
    cases hd
    simp only [Acm,Option.some.injEq] at hv;subst hv
    exact .cons _ _ _ _ (.str s) .nil
   |struct fs =>
    simp only [Bool.and_eq_true,List.all_eq_true,List.contains_iff_mem] at hc
    obtain ⟨hf,htile⟩:=hc
    unfold DataW.trod at h
    rw [hu] at h
    simp only at h
    split at h
    ·rename_i hlen
     cases hm:fs.toList.mapM (fun f=>DataW.trod enc P w base spare held n f.type ((cs.drop f.offset).take (P.cellsOf f.type))) with
     |none=>rw [hm] at h;cases h
     |some xs =>
      rw [hm] at h
      have hd:d=.agg (xs.map (·.1)):=by
       cases h;rfl
      subst hd
      simp only [Acm] at hv
      have key:∀ (fl:List Field) (off:Nat) (xs:List (DataW H × List MemPlace)) (vs:List FV),(∀ f ∈ fl,f.type ∈ ts)→fl.mapM (fun f=>DataW.trod enc P w base spare held n f.type ((cs.drop f.offset).take (P.cellsOf f.type)))=some xs →
        tile P off fl (P.cellsOf t)=true→off ≤ cs.length→A7q (xs.map (·.1))=some vs→RL g w vs (cs.drop off):=by
       intro fl
       induction fl with
       |nil =>
        intro off xs vs _ hm ht' hoff hv
        simp at hm;subst hm
        simp only [List.map_nil,A7q,Option.some.injEq] at hv;subst hv
        simp only [tile,decide_eq_true_eq] at ht'
        rw [List.drop_eq_nil_of_le (by omega)]
        exact .nil
       |cons f fl ihf =>
        intro off xs vs hfl hm ht' hoff hv
        simp only [tile,Bool.and_eq_true,decide_eq_true_eq] at ht'
        obtain ⟨ho,ht'⟩:=ht'
        rw [List.mapM_cons] at hm
        cases hy:DataW.trod enc P w base spare held n f.type ((cs.drop f.offset).take (P.cellsOf f.type)) with
        |none=>rw [hy] at hm;cases hm
        |some y =>
         rw [hy] at hm
         cases hys:fl.mapM (fun f=>DataW.trod enc P w base spare held n f.type ((cs.drop f.offset).take (P.cellsOf f.type))) with
         |none=>rw [hys] at hm;cases hm
         |some ys =>
          rw [hys] at hm
          cases hm
          simp only [List.map_cons,A7q] at hv
          obtain ⟨v1,e1,hv⟩:=A01 hv
          obtain ⟨v2,e2,hv⟩:=A01 hv
          simp only [Option.some.injEq] at hv;subst hv
          have r1:=ih _ _ y.1 y.2 (hfl f (by simp)) hy v1 e1
          have hl2:P.cellsOf f.type ≤ cs.length - off:=by
           have:∀ (fl:List Field) (o:Nat),tile P o fl (P.cellsOf t)=true→o ≤ P.cellsOf t:=by
            intro fl
            induction fl with
            |nil=>intro o h;simp only [tile,decide_eq_true_eq] at h;omega
            |cons f fl ih=>intro o h;simp only [tile,Bool.and_eq_true,decide_eq_true_eq] at h;have:=ih _ h.2;omega
           have:=this _ _ ht'
           have hlen':cs.length=P.cellsOf t:=by simpa using hlen
           omega
          have r2:=ihf (off + P.cellsOf f.type) ys v2 (fun q hq=>hfl q (by simp [hq])) hys ht' (by omega) e2
          have e:cs.drop off=(cs.drop f.offset).take (P.cellsOf f.type) ++ cs.drop (off + P.cellsOf f.type):=by
           rw [ho,← List.drop_drop]
           exact (List.take_append_drop _ _).symm
          rw [e]
          exact RL.append r1 r2
      exact by simpa using key fs.toList 0 xs vs hf hm htile (Nat.zero_le _) hv
    ·cases h
   |array m e =>
    simp only [Bool.and_eq_true,decide_eq_true_eq,List.contains_iff_mem] at hc
    obtain ⟨he,hsz⟩:=hc
    obtain ⟨xs,m',hm',hx,hlen,hn,hel⟩:=DataW.trod_array hu h0
    cases hm'
    have hd:d=.agg (xs.map (·.1)):=by cases hx;rfl
    subst hd
    simp only [Acm] at hv
    have key:∀ (k:Nat) (vs:List FV),k ≤ m→A7q ((xs.drop (m - k)).map (·.1))=some vs→RL g w vs (cs.drop ((m - k) * P.cellsOf e)):=by
     intro k
     induction k with
     |zero =>
      intro vs _ hv
      rw [Nat.sub_zero,List.drop_eq_nil_of_le (by omega)] at hv
      simp only [List.map_nil,A7q,Option.some.injEq] at hv;subst hv
      rw [Nat.sub_zero,List.drop_eq_nil_of_le (by omega)]
      exact .nil
     |succ k ihk =>
      intro vs hk hv
      have hj:m - (k + 1) < xs.length:=by omega
      have hel':=hel (m - (k + 1)) (by omega)
      rw [List.getElem?_eq_getElem hj] at hel'
      rw [List.drop_eq_getElem_cons hj,List.map_cons] at hv
      simp only [A7q] at hv
      obtain ⟨v1,e1,hv⟩:=A01 hv
      obtain ⟨v2,e2,hv⟩:=A01 hv
      simp only [Option.some.injEq] at hv;subst hv
      have r1:=ih _ _ _ _ he hel' v1 e1
      rw [show m - (k + 1) + 1=m - k by omega] at e2
      have r2:=ihk v2 (by omega) e2
      have e:cs.drop ((m - (k + 1)) * P.cellsOf e)=(cs.drop ((m - (k + 1)) * P.cellsOf e)).take (P.cellsOf e) ++ cs.drop ((m - k) * P.cellsOf e):=by
       rw [show m - k=(m - (k + 1)) + 1 by omega,Nat.add_mul,Nat.one_mul,← List.drop_drop]
       exact (List.take_append_drop _ _).symm
      rw [e]
      exact RL.append r1 r2
    have:=key m vs (Nat.le_refl _) (by simpa using hv)
    simpa using this
   |_=>cases hc
end Go.FI
namespace Go.FI
variable [Sys]
section
variable {P:Program} {n:Nat} {t:TypeId} {cs:List FV}
theorem OfT.slice' {e:TypeId} (h:OfT P (n + 1) t cs) (he:A4y P t=some e):∃ (css:List (List FV)),cs=[.lst false (css.map (mkE P e))]∧css.length ≤ maxLen∧∀ c ∈ css,OfT P n e c:=by
 obtain ⟨_,_,h⟩:=h
 unfold A4y at he
 split at he
 ·rename_i hu
  cases he
  rw [hu] at h
  exact h
 ·cases he
theorem OfT.field' (h:OfT P (n + 1) t cs) (i:Nat) {u off k:Nat} (hf:A5s P t i=some (u,off,k)):OfT P n u ((cs.drop off).take k):=by
 obtain ⟨_,_,h⟩:=h
 unfold A5s at hf
 split at hf
 ·rename_i fs hu
  rw [hu] at h
  cases hx:fs.toList[i]? with
  |none=>rw [hx] at hf;cases hf
  |some f =>
   rw [hx] at hf
   cases hf
   exact h f (List.mem_of_getElem? hx)
 ·cases hf
theorem Al3 {l:List Te} {y:Te}:y ∈ A26 l→∃ x ∈ l,y ∈ A0k x:=by
 induction l with
 |nil=>intro h;cases h
 |cons a l ih =>
  intro h
  rw [A28,List.mem_append] at h
  rcases h with h | h
  ·exact ⟨a,by simp,h⟩
  ·obtain ⟨x,h1,h2⟩:=ih h;exact ⟨x,by simp [h1],h2⟩
theorem TOk.of {t:Te} (h:Ap4 t) (hl:∀ x ∈ t.l,TOk x):TOk t:=by
 intro y hy
 rw [A2y,List.mem_cons] at hy
 rcases hy with rfl | hy
 ·exact h
 ·obtain ⟨x,h1,h2⟩:=Al3 hy;exact hl x h1 y h2
theorem Al0 {u8 i64 u64 str sl:Nat} (ha:isAgg P t=true) (hl:P.cellsOf t=6)
  (h0:A5s P t 0=some (u8,0,1)) (h1:A5s P t 1=some (i64,1,1)) (h2:A5s P t 2=some (u64,2,1)) (h3:A5s P t 3=some (str,3,1)) (h4:A5s P t 4=some (i64,4,1)) (h5:A5s P t 5=some (sl,5,1))
  (k0:kindOf P u8=some .u8) (k1:kindOf P i64=some .i64) (k2:kindOf P u64=some .u64) (k3:strT P str=true) (k5:A4y P sl=some t) :
  ∀ {n:Nat} {cs:List FV},OfT P n t cs→∃ x:Te,mkE P t cs=tV x∧TOk x:=by
 intro n
 induction n using Nat.strongRecOn with
 |ind n ih =>
  intro cs h
  cases n with
  |zero=>cases h
  |succ n =>
   have hn:=h.len hl
   have f0:=h.field' 0 h0
   have f1:=h.field' 1 h1
   have f2:=h.field' 2 h2
   have f3:=h.field' 3 h3
   have f4:=h.field' 4 h4
   have f5:=h.field' 5 h5
   match cs,hn with
   |[a0,a1,a2,a3,a4,a5],_ =>
    obtain ⟨k,e0,g0⟩:=f0.int k0
    obtain ⟨w,e1,g1⟩:=f1.int k1
    obtain ⟨b,e2,g2⟩:=f2.int k2
    obtain ⟨s,e3,g3⟩:=f3.str k3
    obtain ⟨lo,e4,g4⟩:=f4.int k1
    cases n with
    |zero=>cases f5
    |succ n =>
     obtain ⟨css,e5,g5,hc⟩:=f5.slice' k5
     obtain ⟨l,m1,m2,m3⟩:=A67 (css:=css) (mk:=mkE P t) (enc:=tV) (good:=TOk) fun c hcc=>ih n (by omega) (hc c hcc)
     simp only [List.drop_succ_cons,List.drop_zero,List.take_succ_cons,List.take_zero,List.cons.injEq,and_true] at e0 e1 e2 e3 e4 e5
     subst e0 e1 e2 e3 e4 e5
     refine ⟨.mk k w b s lo false l,?_,TOk.of ⟨?_,?_,?_,?_,?_,?_⟩ m3⟩
     ·rw [Afz ha,Aaz,m1];rfl
     ·simp only [Tm'.k];simp [IntKind.min,IntKind.max,IntKind.signed,IntKind.bits] at g0;omega
     ·simp only [Tm'.w];simp [IntKind.min,IntKind.max,IntKind.signed,IntKind.bits] at g1;omega
     ·simp only [Tm'.b];simp [IntKind.min,IntKind.max,IntKind.signed,IntKind.bits] at g2;omega
     ·simp only [Tm'.s];simpa [maxLen] using g3
     ·simp only [Tm'.lo];simp [IntKind.min,IntKind.max,IntKind.signed,IntKind.bits] at g4;omega
     ·simp only [Tm'.l];rw [m2];simpa [maxLen] using g5
end
end Go.FI
namespace Go.FI
abbrev Env:=List (List UInt8 × Int × Int)
def bdV (p:List UInt8 × Int × Int):FV:=.agg [.str p.1,.int .i64 p.2.1,.int .u64 p.2.2]
theorem pu_e (l:Env):pures (l.map bdV)=true:=A4s (fun _=>rfl) _
theorem lo_e (b:Nat) (l:Env):lows b (l.map bdV)=true:=A5a (fun _=>rfl) _
theorem al_e (l:Env):(l.map bdV).all FV.ok=true:=all_map (fun _=>rfl) _
theorem cl_e (l:Env):((l.map bdV).all fun v=>v.cells.length == 3)=true:=all_map (fun _=>rfl) _
theorem gd_e {l:Env} {i:Nat} {d:FV} (h:i < l.length):(l.map bdV).getD i d=.agg [.str (l.getD i ([],0,0)).1,.int .i64 (l.getD i ([],0,0)).2.1,.int .u64 (l.getD i ([],0,0)).2.2]:=getD_map _ h
theorem ge_e {l:Env} {i:Nat} (h:i < l.length):(l.map bdV)[i]? = some (.agg [.str (l.getD i ([],0,0)).1,.int .i64 (l.getD i ([],0,0)).2.1,.int .u64 (l.getD i ([],0,0)).2.2]):=by simp [List.getD,h,bdV]
theorem EnL:type_of% (And.intro pu_e <| And.intro lo_e <| And.intro al_e <| And.intro cl_e <| And.intro @gd_e @ge_e):=And.intro pu_e <| And.intro lo_e <| And.intro al_e <| And.intro cl_e <| And.intro @gd_e @ge_e
abbrev nm (env:Env) (k:Nat):List UInt8:=(env.getD k ([],0,0)).1
def A37 (env:Env) (s:List UInt8):Option (List UInt8 × Int × Int):=env.find? fun p=>p.1 == s
theorem Am1 (env:Env) (s:List UInt8) (i:Nat) (hi:i < env.length) (lo:∀ k,k < i→¬ nm env k=s):nm env i=s→A37 env s=some (env.getD i ([],0,0)):=by
 induction env generalizing i with
 |nil=>simp at hi
 |cons p env ih =>
  intro h
  unfold A37
  cases i with
  |zero=>simp [nm] at h;simp [h]
  |succ i =>
   have h0:¬ p.1=s:=by simpa [nm] using lo 0 (by omega)
   simp only [List.find?_cons]
   rw [show (p.1 == s)=false by simpa using h0]
   have:=ih i (by simpa using hi) (fun k hk=>by simpa [nm] using lo (k + 1) (by omega)) (by simpa [nm] using h)
   simpa [A37] using this
theorem Akf (env:Env) (s:List UInt8) (h:∀ k,k < env.length→¬ nm env k=s):A37 env s=none:=by
 unfold A37
 rw [List.find?_eq_none]
 intro p hp
 obtain ⟨k,hk⟩:=List.getElem?_of_mem hp
 have hk':k < env.length:=(List.getElem?_eq_some_iff.1 hk).1
 have:=h k hk'
 simp [nm,List.getD,hk] at this
 simpa using this
theorem Ayp:∀ a b:List UInt8,Go.Lib.compareBytes a b=0 ↔ a=b:=by
 intro a
 induction a with
 |nil=>intro b;cases b<;>simp [Go.Lib.compareBytes]
 |cons x a ih =>
  intro b
  cases b with
  |nil=>simp [Go.Lib.compareBytes]
  |cons y b =>
   simp only [Go.Lib.compareBytes]
   by_cases h1:x < y
   ·simp [h1]
    intro h;subst h;exact absurd h1 (UInt8.lt_irrefl _)
   ·by_cases h2:y < x
    ·simp [h1,h2]
     intro h;subst h;exact absurd h2 (UInt8.lt_irrefl _)
    ·have h3:y=x:=UInt8.le_antisymm (UInt8.not_lt.1 h1) (UInt8.not_lt.1 h2)
     subst h3
     simp [ih b]
theorem Anx [Sys] {P:Program} {n:Nat} {t:TypeId} {cs:List FV} {e str i64 u64:Nat} (h:OfT P n t cs) (he:A4y P t=some e) (ha:isAgg P e=true) (hl:P.cellsOf e=3) (h0:A5s P e 0=some (str,0,1)) (h1:A5s P e 1=some (i64,1,1)) (h2:A5s P e 2=some (u64,2,1)) (k0:strT P str=true) (k1:kindOf P i64=some .i64) (k2:kindOf P u64=some .u64) :
  ∃ l:Env,cs=[.lst false (l.map bdV)]∧l.length ≤ maxLen∧∀ p ∈ l,(0 ≤ p.2.2∧p.2.2 ≤ 18446744073709551615)∧p.1.length ≤ maxLen∧-9223372036854775808 ≤ p.2.1∧p.2.1 ≤ 9223372036854775807:=by
 obtain ⟨m,css,rfl,g2,g3⟩:=h.slice he
 obtain ⟨l,h4,h5,h6⟩:=A67 (css:=css) (mk:=mkE P e) (enc:=bdV) (good:=fun p=>(0 ≤ p.2.2∧p.2.2 ≤ 18446744073709551615)∧p.1.length ≤ maxLen∧-9223372036854775808 ≤ p.2.1∧p.2.1 ≤ 9223372036854775807) fun c hc=>by
  have hc':=g3 c hc
  have hlen:=hc'.len hl
  obtain ⟨_,f0⟩:=hc'.field 0 h0
  obtain ⟨_,f1⟩:=hc'.field 1 h1
  obtain ⟨_,f2⟩:=hc'.field 2 h2
  match c,hlen with
  |[x,y,z],_ =>
   obtain ⟨s,e1,s1⟩:=f0.str k0
   obtain ⟨w,e2,w1,w2⟩:=f1.int k1
   obtain ⟨b,e3,b1,b2⟩:=f2.int k2
   simp at e1 e2 e3
   refine ⟨(s,w,b),by rw [Afz ha,e1,e2,e3];rfl,?_⟩
   simp [IntKind.min,IntKind.max,IntKind.signed,IntKind.bits] at b1 b2 w1 w2
   exact ⟨⟨b1,by show b ≤ _;omega⟩,s1,w1,by show w ≤ _;omega⟩
 exact ⟨l,by rw [h4],by omega,h6⟩
end Go.FI
