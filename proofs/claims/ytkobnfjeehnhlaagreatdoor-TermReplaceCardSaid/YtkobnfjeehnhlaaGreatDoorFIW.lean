/- How simp runs the interpreter: what comes next is an instance argument,so that simp does not go into it before its turn. -/
import Derived.Test.YtkobnfjeehnhlaaGreatDoorFISimp
set_option linter.all false
namespace Go.FI
class Cont (α β:Type) where
 f:α→Option β
class Two (α:Type) where
 a:α
 b:α
class Post (α:Type) where
 q:α→Prop
noncomputable section
def B {α β:Type} (x:Option α) [k:Cont α β]:Option β:=bnd x k.f
def If {α:Type} (c:Bool) [k:Two α]:α:=if c=true then k.a else k.b
open Classical in
def Ck {α:Type} (p:Prop) [k:Cont Unit α]:Option α:=if p then k.f () else none
def Ok {α:Type} (e:Option α) [q:Post α]:Prop:=∃ r,e=some r∧q.q r
section
variable {α β γ:Type}
theorem B_some {a:α} {f:α→Option β}:@B α β (some a) ⟨f⟩=f a:=rfl
theorem B_none {f:α→Option β}:@B α β none ⟨f⟩=none:=rfl
theorem B_B {x:Option α} {f:α→Option β} {g:β→Option γ}:@B β γ (@B α β x ⟨f⟩) ⟨g⟩=@B α γ x ⟨fun a=>@B β γ (f a) ⟨g⟩⟩:=by cases x<;>rfl
theorem B_If {c:Bool} {x y:Option α} {f:α→Option β}:@B α β (@If (Option α) c ⟨x,y⟩) ⟨f⟩=@If (Option β) c ⟨@B α β x ⟨f⟩,@B α β y ⟨f⟩⟩:=by cases c<;>rfl
theorem B_Ck {p:Prop} {x:Unit→Option α} {f:α→Option β}:@B α β (@Ck α p ⟨x⟩) ⟨f⟩=@Ck β p ⟨fun u=>@B α β (x u) ⟨f⟩⟩:=by
 unfold Ck
 split<;>rfl
theorem If_t {x y:α}:@If α true ⟨x,y⟩=x:=rfl
theorem If_f {x y:α}:@If α false ⟨x,y⟩=y:=rfl
theorem If_not {c:Bool} {x y:α}:@If α (!c) ⟨x,y⟩=@If α c ⟨y,x⟩:=by cases c<;>rfl
theorem Ck_pos {p:Prop} {x:Unit→Option α} (h:p):@Ck α p ⟨x⟩=x ():=by unfold Ck;exact if_pos h
theorem Ck_true {x:Unit→Option α}:@Ck α True ⟨x⟩=x ():=Ck_pos trivial
theorem Ok_some {a:α} {q:α→Prop}:@Ok α (some a) ⟨q⟩ ↔ q a:=⟨fun ⟨_,h1,h2⟩=>by cases h1;exact h2,fun h=>⟨_,rfl,h⟩⟩
theorem Ok_if {c:Bool} {x y:Option α} {q:Post α} (h1:c=true→@Ok α x q) (h2:c=false→@Ok α y q):@Ok α (@If (Option α) c ⟨x,y⟩) q:=by
 cases c
 ·exact h2 rfl
 ·exact h1 rfl
theorem Ok_ck {p:Prop} {x:Unit→Option α} {q:Post α} (h:p) (h1:@Ok α (x ()) q):@Ok α (@Ck α p ⟨x⟩) q:=by rw [Ck_pos h];exact h1
theorem Ok_B {x:Option α} {f:α→Option β} {q:Post β} {a:α} (h:x=some a) (h1:@Ok β (f a) q):@Ok β (@B α β x ⟨f⟩) q:=by rw [h];exact h1
theorem Ok_part {x:Option α} {f:α→Option β} {q:Post β} (h:@Ok α x ⟨fun a=>@Ok β (f a) q⟩):@Ok β (@B α β x ⟨f⟩) q:=by
 obtain ⟨a,h1,h2⟩:=h
 exact Ok_B h1 h2
theorem Ok_mono {x:Option α} {p:α→Prop} {q:Post α} (h:@Ok α x ⟨p⟩) (hq:∀ a,p a→q.q a):@Ok α x q:=by
 obtain ⟨a,h1,h2⟩:=h
 exact ⟨a,h1,hq a h2⟩
theorem Ok_eq {x:Option α} {a:α} (h:@Ok α x ⟨fun r=>r=a⟩):x=some a:=by
 obtain ⟨r,h1,h2⟩:=h
 cases h2;exact h1
theorem Ck_and {p q:Prop} {x:Unit→Option α}:@Ck α (p∧q) ⟨x⟩=@Ck α p ⟨fun _=>@Ck α q ⟨x⟩⟩:=by
 unfold Ck;by_cases hp:p<;>by_cases hq:q<;>simp [hp,hq]
theorem Ck_chk {p:Prop} [Decidable p] {x:Option α}:chk p x=@Ck α p ⟨fun _=>x⟩:=by
 unfold Ck chk
 split<;>rfl
end
def lenV (k:Nat) (_:Heap):FV→Option FV
 |.str s=>@Ck FV (k=0) ⟨fun _=>some (.int .i64 s.length)⟩
 |.lst _ xs=>@Ck FV (k=1) ⟨fun _=>some (.int .i64 xs.length)⟩
 |.sref _ _ _ _ l=>@Ck FV (k=1) ⟨fun _=>some (.int .i64 l)⟩
 |_=>none
section
open IntKind
variable {cal:Call} {id:Nat} {d:Option Nat} {gd:Option (Nat × Bool)} {re:List (Option (Nat × Bool) × Option Nat × Nat × Nat)} {m:Tm} {h:Heap} {nx:Nat} {x y z:X} {r:List G}
theorem rops_v {op:O} {v:Option FV} (he:opg cal id ⟨d,none,op,[]⟩ m h nx=bnd v fun v=>some (v,h,nx)) :
  rops cal id (⟨d,none,op,[]⟩::r) m h nx=@B FV (Tm × Heap × Nat) v ⟨fun v=>rops cal (id + 1) r (put m d v) h nx⟩:=by
 show bnd (some true) _=_
 show bnd (opg cal id ⟨d,none,op,[]⟩ m h nx) _=_
 rw [he]
 cases v<;>rfl
theorem rops_x {op:O} {v:Option (FV × Heap × Nat)} (he:opg cal id ⟨d,none,op,re⟩ m h nx=v) :
  rops cal id (⟨d,none,op,re⟩::r) m h nx=@B (FV × Heap × Nat) (Tm × Heap × Nat) v ⟨fun x=>rechk x.2.1 (put m d x.1) (rops cal (id + 1) r (put m d x.1) x.2.1 x.2.2) re⟩:=by
 show bnd (opg cal id ⟨d,none,op,re⟩ m h nx) _=_
 rw [he]
 rfl
theorem r_nil:rops cal id [] m h nx=some (m,h,nx):=rfl
theorem r_mv:rops cal id (⟨d,none,.mv x,[]⟩::r) m h nx=rops cal (id + 1) r (put m d (ev m x)) h nx:=rfl
theorem r_pk:rops cal id (⟨d,none,.pk x y z,[]⟩::r) m h nx=@B FV (Tm × Heap × Nat) (match ev m x with | .bool c=>some (if c=true then ev m y else ev m z) | _=>none) ⟨fun v=>rops cal (id + 1) r (put m d v) h nx⟩:=rops_v rfl
theorem r_bo {op:BinOp}:rops cal id (⟨d,none,.bo op x y,[]⟩::r) m h nx=@B FV (Tm × Heap × Nat) (binop op (ev m x) (ev m y)) ⟨fun v=>rops cal (id + 1) r (put m d v) h nx⟩:=rops_v rfl
def beV (n:Bool):FV→FV→Option FV
 |.bool a,.bool b=>some (.bool (if n=true then !(a == b) else a == b))
 |_,_=>none
theorem beV_b {n a b:Bool}:beV n (.bool a) (.bool b)=some (.bool (if n=true then !(a == b) else a == b)):=rfl
theorem r_be {n:Bool}:rops cal id (⟨d,none,.be n x y,[]⟩::r) m h nx=@B FV (Tm × Heap × Nat) (beV n (ev m x) (ev m y)) ⟨fun v=>rops cal (id + 1) r (put m d v) h nx⟩:=rops_v rfl
theorem r_eq {n:Bool} {ks:List Nat}:rops cal id (⟨d,none,.eq n ks x y,[]⟩::r) m h nx=@B FV (Tm × Heap × Nat) (match ev m x,ev m y with | .agg a,.agg b=>@B Bool FV (eqCells ks a b) ⟨fun e=>some (.bool (if n=true then !e else e))⟩ | _,_=>none) ⟨fun v=>rops cal (id + 1) r (put m d v) h nx⟩:=rops_v rfl
theorem r_un {op:UnOp}:rops cal id (⟨d,none,.un op x,[]⟩::r) m h nx=@B FV (Tm × Heap × Nat) (unop op (ev m x)) ⟨fun v=>rops cal (id + 1) r (put m d v) h nx⟩:=rops_v rfl
def ixV:FV→FV→Option FV
 |.str s,.int _ n=>@Ck FV (0 ≤ n∧n < s.length) ⟨fun _=>some (.int .u8 (s.getD n.toNat 0).toNat)⟩
 |_,_=>none
theorem ixV_s {s:List UInt8} {k:IntKind} {n:Int}:ixV (.str s) (.int k n)=@Ck FV (0 ≤ n∧n < s.length) ⟨fun _=>some (.int .u8 (s.getD n.toNat 0).toNat)⟩:=rfl
theorem r_ix:rops cal id (⟨d,none,.ix x y,[]⟩::r) m h nx=@B FV (Tm × Heap × Nat) (ixV (ev m x) (ev m y)) ⟨fun v=>rops cal (id + 1) r (put m d v) h nx⟩:=rops_v (by
 show bnd (opv h m (.ix x y)) _=_
 congr 1
 simp only [opv]
 cases ev m x<;>try rfl
 cases ev m y<;>try rfl
 simp only [ixV,Ck_chk])
theorem lenV_s {s:List UInt8}:lenV 0 h (.str s)=some (.int .i64 s.length):=Ck_pos rfl
theorem lenV_l {e:Bool} {xs:List FV}:lenV 1 h (.lst e xs)=some (.int .i64 xs.length):=Ck_pos rfl
theorem lenV_r {es i st off l:Nat}:lenV 1 h (.sref es i st off l)=some (.int .i64 l):=Ck_pos rfl
def mapLen (h:Heap):FV→Option FV
 |.map id=>match hget h id with
  |some (.mp en)=>some (.int .i64 en.length)
  |_=>none
 |.nilm=>some (.int .i64 0)
 |_=>none
theorem r_ln0:rops cal id (⟨d,none,.ln 0 x,[]⟩::r) m h nx=@B FV (Tm × Heap × Nat) (lenV 0 h (ev m x)) ⟨fun v=>rops cal (id + 1) r (put m d v) h nx⟩:=rops_v (by
 show bnd (opv h m (.ln 0 x)) _=_
 congr 1
 simp only [opv]
 cases ev m x<;>simp only [lenV,Ck]<;>simp)
theorem r_ln1:rops cal id (⟨d,none,.ln 1 x,[]⟩::r) m h nx=@B FV (Tm × Heap × Nat) (lenV 1 h (ev m x)) ⟨fun v=>rops cal (id + 1) r (put m d v) h nx⟩:=rops_v (by
 show bnd (opv h m (.ln 1 x)) _=_
 congr 1
 simp only [opv]
 cases ev m x<;>simp only [lenV,Ck]<;>simp)
theorem r_ln2:rops cal id (⟨d,none,.ln 2 x,[]⟩::r) m h nx=@B FV (Tm × Heap × Nat) (mapLen h (ev m x)) ⟨fun v=>rops cal (id + 1) r (put m d v) h nx⟩:=rops_v rfl
def mxV:FV→FV→Option FV
 |.int k x,.int j y=>@Ck FV (k=j) ⟨fun _=>some (.int k (max x y))⟩
 |_,_=>none
def mnV:FV→FV→Option FV
 |.int k x,.int j y=>@Ck FV (k=j) ⟨fun _=>some (.int k (min x y))⟩
 |_,_=>none
theorem mx_i {k:IntKind} {a b:Int}:mxV (.int k a) (.int k b)=some (.int k (max a b)):=Ck_pos rfl
theorem mn_i {k:IntKind} {a b:Int}:mnV (.int k a) (.int k b)=some (.int k (min a b)):=Ck_pos rfl
theorem r_mx:rops cal id (⟨d,none,.mx x y,[]⟩::r) m h nx=@B FV (Tm × Heap × Nat) (mxV (ev m x) (ev m y)) ⟨fun v=>rops cal (id + 1) r (put m d v) h nx⟩:=rops_v (by
 show bnd (opv h m (.mx x y)) _=_
 congr 1
 simp only [opv]
 cases ev m x<;>(try rfl)<;>cases ev m y<;>(try rfl)
 rename_i k a j b
 simp only [mxV]
 rw [show max a b=if a < b then b else a by simp only [Int.max_def];split<;>split<;>omega]
 exact Ck_chk)
theorem r_mn:rops cal id (⟨d,none,.mn x y,[]⟩::r) m h nx=@B FV (Tm × Heap × Nat) (mnV (ev m x) (ev m y)) ⟨fun v=>rops cal (id + 1) r (put m d v) h nx⟩:=rops_v (by
 show bnd (opv h m (.mn x y)) _=_
 congr 1
 simp only [opv]
 cases ev m x<;>(try rfl)<;>cases ev m y<;>(try rfl)
 rename_i k a j b
 simp only [mnV]
 rw [show min a b=if b < a then b else a by simp only [Int.min_def];split<;>split<;>omega]
 exact Ck_chk)
theorem r_cv {k:IntKind}:rops cal id (⟨d,none,.cv k x,[]⟩::r) m h nx=@B FV (Tm × Heap × Nat) (match ev m x with | .int _ n=>some (.int k (k.wrap n)) | _=>none) ⟨fun v=>rops cal (id + 1) r (put m d v) h nx⟩:=rops_v rfl
theorem r_ld {ag:Option Nat}:rops cal id (⟨d,none,.ld ag x,[]⟩::r) m h nx=@B FV (Tm × Heap × Nat) (loadv h ag (ev m x)) ⟨fun v=>rops cal (id + 1) r (put m d v) h nx⟩:=rops_v rfl
def faV (off:Nat):FV→Option FV
 |.ptr id s i o=>some (.ptr id s i (o + off))
 |.eptr cs o=>some (.eptr cs (o + off))
 |_=>none
theorem r_fa {o:Nat}:rops cal id (⟨d,none,.fa o x,[]⟩::r) m h nx=@B FV (Tm × Heap × Nat) (faV o (ev m x)) ⟨fun v=>rops cal (id + 1) r (put m d v) h nx⟩:=rops_v rfl
def fdV (ag:Option Nat) (off:Nat):FV→Option FV
 |.agg cs=>cellsAt cs ag off
 |_=>none
theorem fdV_agg {ag:Option Nat} {off:Nat} {cs:List FV}:fdV ag off (.agg cs)=cellsAt cs ag off:=rfl
theorem r_fd {ag:Option Nat} {o:Nat}:rops cal id (⟨d,none,.fd ag o x,[]⟩::r) m h nx=@B FV (Tm × Heap × Nat) (fdV ag o (ev m x)) ⟨fun v=>rops cal (id + 1) r (put m d v) h nx⟩:=rops_v rfl
def iaV (es:Nat):FV→FV→Option FV
 |.lst _ xs,.int _ n=>@Ck FV (0 ≤ n∧n < xs.length) ⟨fun _=>@Ck FV ((xs.getD n.toNat .undef).cells.length=es) ⟨fun _=>some (.eptr (xs.getD n.toNat .undef).cells 0)⟩⟩
 |.sref es' id s off len,.int _ n=>@Ck FV (es'=es) ⟨fun _=>@Ck FV (0 ≤ n∧n < len) ⟨fun _=>some (.ptr id s (off + n.toNat) 0)⟩⟩
 |_,_=>none
theorem iaV_l {es:Nat} {e:Bool} {xs:List FV} {k:IntKind} {n:Int}:iaV es (.lst e xs) (.int k n)=@Ck FV (0 ≤ n∧n < xs.length) ⟨fun _=>@Ck FV ((xs.getD n.toNat .undef).cells.length=es) ⟨fun _=>some (.eptr (xs.getD n.toNat .undef).cells 0)⟩⟩:=rfl
theorem iaV_r {es es' i s off len:Nat} {k:IntKind} {n:Int}:iaV es (.sref es' i s off len) (.int k n)=@Ck FV (es'=es) ⟨fun _=>@Ck FV (0 ≤ n∧n < len) ⟨fun _=>some (.ptr i s (off + n.toNat) 0)⟩⟩:=rfl
theorem r_ia {es:Nat}:rops cal id (⟨d,none,.ia es x y,[]⟩::r) m h nx=@B FV (Tm × Heap × Nat) (iaV es (ev m x) (ev m y)) ⟨fun v=>rops cal (id + 1) r (put m d v) h nx⟩:=rops_v (by
 show bnd (opv h m (.ia es x y)) _=_
 congr 1
 simp only [opv]
 cases ev m x<;>(try rfl)<;>cases ev m y<;>(try rfl)<;>simp only [iaV,Ck_chk])
def aaV (len es:Nat):FV→FV→Option FV
 |.ptr id s j o,.int _ n=>@Ck FV (0 ≤ n∧n < len) ⟨fun _=>some (.ptr id s j (o + n.toNat * es))⟩
 |.eptr cs o,.int _ n=>@Ck FV (0 ≤ n∧n < len) ⟨fun _=>some (.eptr cs (o + n.toNat * es))⟩
 |_,_=>none
theorem r_aa {n es:Nat}:rops cal id (⟨d,none,.aa n es x y,[]⟩::r) m h nx=@B FV (Tm × Heap × Nat) (aaV n es (ev m x) (ev m y)) ⟨fun v=>rops cal (id + 1) r (put m d v) h nx⟩:=rops_v (by
 show bnd (opv h m (.aa n es x y)) _=_
 congr 1
 simp only [opv]
 cases ev m x<;>(try rfl)<;>cases ev m y<;>(try rfl)<;>simp only [aaV,Ck_chk])
theorem r_nc:rops cal id (⟨d,none,.nc x,[]⟩::r) m h nx=@B FV (Tm × Heap × Nat) (match ev m x with | .ptr i s j o=>some (.ptr i s j o) | .fn f cs=>some (.fn f cs) | .eptr cs o=>some (.eptr cs o) | _=>none) ⟨fun v=>rops cal (id + 1) r (put m d v) h nx⟩:=rops_v rfl
def exV (i:Nat):FV→Option FV
 |.tup vs=>vs[i]?
 |_=>none
theorem exV_t {i:Nat} {vs:List FV}:exV i (.tup vs)=vs[i]? := rfl
theorem r_ex {i:Nat}:rops cal id (⟨d,none,.ex x i,[]⟩::r) m h nx=@B FV (Tm × Heap × Nat) (exV i (ev m x)) ⟨fun v=>rops cal (id + 1) r (put m d v) h nx⟩:=rops_v rfl
def sliceV (es:Nat):FV→Option FV→Option FV→Option FV
 |.str s,lo,hi=>@B Int FV (match hi with | none=>some (s.length:Int) | some v=>asInt v) ⟨fun h=>@B Int FV (match lo with | none=>some 0 | some v=>asInt v) ⟨fun l =>
   @Ck FV (es=0∧0 ≤ l∧l ≤ h∧h ≤ s.length) ⟨fun _=>some (.str (cut s l.toNat h.toNat))⟩⟩⟩
 |.lst e xs,lo,hi=>@B Int FV (match hi with | none=>some (xs.length:Int) | some v=>asInt v) ⟨fun h=>@B Int FV (match lo with | none=>some 0 | some v=>asInt v) ⟨fun l =>
   @Ck FV ((es ≠ 0∧0 ≤ l∧l ≤ h∧h ≤ xs.length)∧lstOk es xs=true) ⟨fun _=>some (.lst (e && decide (h=xs.length)) (cut xs l.toNat h.toNat))⟩⟩⟩
 |.sref es' id stamp off len,lo,hi=>@B Int FV (match hi with | none=>some (len:Int) | some v=>asInt v) ⟨fun h=>@B Int FV (match lo with | none=>some 0 | some v=>asInt v) ⟨fun l =>
   @Ck FV (es'=es∧es ≠ 0∧0 ≤ l∧l ≤ h∧h ≤ len) ⟨fun _=>some (.sref es id stamp (off + l.toNat) (h.toNat - l.toNat))⟩⟩⟩
 |_,_,_=>none
def optV (m:Tm):Option X→Option FV
 |none=>none
 |some x=>some (ev m x)
theorem slice_V {es:Nat} {v:FV} {lo hi:Option X}:slice m es v lo hi=sliceV es v (optV m lo) (optV m hi):=by
 cases v<;>(try rfl)<;>cases lo<;>cases hi<;>simp only [slice,sliceV,optInt,optV,B,Ck_chk]
def idxV (d:Int):Option FV→Option Int
 |none=>some d
 |some v=>asInt v
theorem idx_n {d:Int}:idxV d none=some d:=rfl
theorem idx_s {d n:Int} {k:IntKind}:idxV d (some (.int k n))=some n:=rfl
theorem sl_str {es:Nat} {s:List UInt8} {lo hi:Option FV}:sliceV es (.str s) lo hi=@B Int FV (idxV s.length hi) ⟨fun h=>@B Int FV (idxV 0 lo) ⟨fun l =>
   @Ck FV (es=0∧0 ≤ l∧l ≤ h∧h ≤ s.length) ⟨fun _=>some (.str (cut s l.toNat h.toNat))⟩⟩⟩:=by cases lo<;>cases hi<;>rfl
theorem sl_lst {es:Nat} {e:Bool} {xs:List FV} {lo hi:Option FV}:sliceV es (.lst e xs) lo hi=@B Int FV (idxV xs.length hi) ⟨fun h=>@B Int FV (idxV 0 lo) ⟨fun l =>
   @Ck FV (es ≠ 0∧0 ≤ l∧l ≤ h∧h ≤ xs.length) ⟨fun _=>@Ck FV (lstOk es xs=true) ⟨fun _=>some (.lst (e && decide (h=xs.length)) (cut xs l.toNat h.toNat))⟩⟩⟩⟩:=by cases lo<;>cases hi<;>simp only [sliceV,idxV,B,Ck_and]
theorem sl_ref {es es' i st off len:Nat} {lo hi:Option FV}:sliceV es (.sref es' i st off len) lo hi=@B Int FV (idxV len hi) ⟨fun h=>@B Int FV (idxV 0 lo) ⟨fun l =>
   @Ck FV (es'=es∧es ≠ 0∧0 ≤ l∧l ≤ h∧h ≤ len) ⟨fun _=>some (.sref es i st (off + l.toNat) (h.toNat - l.toNat))⟩⟩⟩:=by cases lo<;>cases hi<;>rfl
theorem r_sl {es:Nat} {lo hi:Option X}:rops cal id (⟨d,none,.sl es x lo hi,[]⟩::r) m h nx=@B FV (Tm × Heap × Nat) (sliceV es (ev m x) (optV m lo) (optV m hi)) ⟨fun v=>rops cal (id + 1) r (put m d v) h nx⟩:=rops_v (by
 rw [← slice_V];rfl)
def fillV:List FV→List (Nat × Nat × FV)→Option (List FV)
 |cs,[]=>some cs
 |cs,(off,sz,v)::ps=>@Ck (List FV) (v.ok=true∧v.cells.length=sz∧off + sz ≤ cs.length) ⟨fun _=>fillV (splice cs off v.cells) ps⟩
def evps (m:Tm):List (Nat × Nat × X)→List (Nat × Nat × FV)
 |[]=>[]
 |(a,b,x)::r=>(a,b,ev m x)::evps m r
theorem fill_V:∀ (ps:List (Nat × Nat × X)) (cs:List FV),fillCells m cs ps=fillV cs (evps m ps):=by
 intro ps
 induction ps with
 |nil=>intro cs;rfl
 |cons p ps ih =>
  obtain ⟨a,b,x⟩:=p
  intro cs
  simp only [fillCells,fillV,evps,Ck_chk,ih]
theorem fillV_nil {cs:List FV}:fillV cs []=some cs:=rfl
theorem fillV_cons {cs:List FV} {off sz:Nat} {v:FV} {ps:List (Nat × Nat × FV)}:fillV cs ((off,sz,v)::ps)=@Ck (List FV) (v.ok=true∧v.cells.length=sz∧off + sz ≤ cs.length) ⟨fun _=>fillV (splice cs off v.cells) ps⟩:=rfl
theorem r_bd {zc:List FV} {ps:List (Nat × Nat × X)}:rops cal id (⟨d,none,.bd zc ps,[]⟩::r) m h nx=@B (List FV) (Tm × Heap × Nat) (fillV zc (evps m ps)) ⟨fun v=>rops cal (id + 1) r (put m d (.agg v)) h nx⟩:=by
 rw [rops_v (v:=bnd (fillCells m zc ps) fun cs=>some (.agg cs)) rfl,fill_V]
 cases fillV zc (evps m ps)<;>rfl
theorem r_mf {f:Nat} {cs:List X}:rops cal id (⟨d,none,.mf f cs,[]⟩::r) m h nx=rops cal (id + 1) r (put m d (.fn f (evs m cs))) h nx:=rfl
theorem r_mi {t:Nat}:rops cal id (⟨d,none,.mi t x,[]⟩::r) m h nx=rops cal (id + 1) r (put m d (.ifc t (ev m x))) h nx:=rfl
def sxV:FV→FV→Option FV
 |.str a,.str b=>some (.int .i64 (Lib.compareBytes a b))
 |_,_=>none
theorem sx_s {a b:List UInt8}:sxV (.str a) (.str b)=some (.int .i64 (Lib.compareBytes a b)):=rfl
theorem r_sx:rops cal id (⟨d,none,.sx x y,[]⟩::r) m h nx=@B FV (Tm × Heap × Nat) (sxV (ev m x) (ev m y)) ⟨fun v=>rops cal (id + 1) r (put m d v) h nx⟩:=rops_v (by
 show bnd (opv h m (.sx x y)) _=_
 congr 1)
theorem r_bx {es:Nat}:rops cal id (⟨d,none,.bx es x,[]⟩::r) m h nx=@Ck (Tm × Heap × Nat) ((ev m x).ok=true∧(ev m x).cells.length=es) ⟨fun _=>rops cal (id + 1) r (put m d (.ptr id 1 0 0)) ((id,.row es [ev m x])::h) nx⟩:=by
 show bnd (bnd (chk _ _) _) _=_
 unfold chk Ck
 split<;>rfl
theorem r_al {es:Nat} {zv:FV}:rops cal id (⟨d,none,.al es zv,[]⟩::r) m h nx=rops cal (id + 1) r (put m d (.ptr id 1 0 0)) ((id,.row es [zv])::h) nx:=rfl
def fillE (es:Nat):List FV→List (Nat × FV)→Option (List FV)
 |xs,[]=>some xs
 |xs,(i,v)::ps=>@Ck (List FV) (v.ok=true∧i < xs.length∧v.cells.length=es) ⟨fun _=>fillE es (xs.set i v) ps⟩
def evpe (m:Tm):List (Nat × X)→List (Nat × FV)
 |[]=>[]
 |(a,x)::r=>(a,ev m x)::evpe m r
theorem fill_E {es:Nat}:∀ (ps:List (Nat × X)) (cs:List FV),fillElems m es cs ps=fillE es cs (evpe m ps):=by
 intro ps
 induction ps with
 |nil=>intro cs;rfl
 |cons p ps ih =>
  obtain ⟨a,x⟩:=p
  intro cs
  simp only [fillElems,fillE,evpe,Ck_chk,ih]
theorem fillE_nil {es:Nat} {cs:List FV}:fillE es cs []=some cs:=rfl
theorem fillE_cons {es:Nat} {cs:List FV} {i:Nat} {v:FV} {ps:List (Nat × FV)}:fillE es cs ((i,v)::ps)=@Ck (List FV) (v.ok=true∧i < cs.length∧v.cells.length=es) ⟨fun _=>fillE es (cs.set i v) ps⟩:=rfl
theorem r_bs {es n:Nat} {zv:FV} {ps:List (Nat × X)}:rops cal id (⟨d,none,.bs es n zv ps,[]⟩::r) m h nx=@B (List FV) (Tm × Heap × Nat) (fillE es (List.replicate n zv) (evpe m ps)) ⟨fun xs=>rops cal (id + 1) r (put m d (.sref es id n 0 n)) ((id,.row es xs)::h) nx⟩:=by
 rw [← fill_E]
 show bnd (bnd (bnd (fillElems m es (List.replicate n zv) ps) _) _) _=_
 cases fillElems m es (List.replicate n zv) ps<;>rfl
def msV (es:Nat) (zv:FV) (id:Nat):FV→FV→Option (Obj × FV)
 |.int _ n,.int _ c=>@Ck (Obj × FV) (0 ≤ n∧n ≤ c∧c ≤ 1073741824) ⟨fun _=>some (.row es (List.replicate n.toNat zv),.sref es id n.toNat 0 n.toNat)⟩
 |_,_=>none
theorem msV_i {es:Nat} {zv:FV} {k j:IntKind} {n c:Int}:msV es zv id (.int k n) (.int j c)=@Ck (Obj × FV) (0 ≤ n∧n ≤ c∧c ≤ 1073741824) ⟨fun _=>some (.row es (List.replicate n.toNat zv),.sref es id n.toNat 0 n.toNat)⟩:=rfl
theorem r_ms {es:Nat} {zv:FV}:rops cal id (⟨d,none,.ms es zv x y,[]⟩::r) m h nx=@B (Obj × FV) (Tm × Heap × Nat) (msV es zv id (ev m x) (ev m y)) ⟨fun o=>rops cal (id + 1) r (put m d o.2) ((id,o.1)::h) nx⟩:=by
 have e:opn m id (.ms es zv x y)=msV es zv id (ev m x) (ev m y):=by
  simp only [opn]
  cases ev m x<;>(try rfl)<;>cases ev m y<;>(try rfl)<;>simp only [msV,Ck_chk]
 show bnd (bnd (opn m id (.ms es zv x y)) _) _=_
 rw [e]
 cases msV es zv id (ev m x) (ev m y)<;>rfl
theorem r_nl {es:Nat}:rops cal id (⟨d,none,.nl es,[]⟩::r) m h nx=rops cal (id + 1) r (put m d (.sref es id 0 0 0)) ((id,.row es [])::h) nx:=rfl
theorem r_mm:rops cal id (⟨d,none,.mm,[]⟩::r) m h nx=rops cal (id + 1) r (put m d (.map id)) ((id,.mp [])::h) nx:=rfl
theorem r_st {sz:Nat}:rops cal id (⟨d,none,.st sz x y,re⟩::r) m h nx=@B Heap (Tm × Heap × Nat) (storev h sz (ev m y) (ev m x)) ⟨fun h'=>rechk h' (put m d .undef) (rops cal (id + 1) r (put m d .undef) h' nx) re⟩:=by
 rw [rops_x (v:=bnd (storev h sz (ev m y) (ev m x)) fun h'=>some (.undef,h',nx)) rfl]
 cases storev h sz (ev m y) (ev m x)<;>rfl
theorem r_ap {es b:Nat}:rops cal id (⟨d,none,.ap es b x y,re⟩::r) m h nx=@B (FV × Heap) (Tm × Heap × Nat) (append h id es b (ev m x) (ev m y)) ⟨fun p=>rechk p.2 (put m d p.1) (rops cal (id + 1) r (put m d p.1) p.2 nx) re⟩:=by
 rw [rops_x (v:=bnd (append h id es b (ev m x) (ev m y)) fun p=>some (p.1,p.2,nx)) rfl]
 cases append h id es b (ev m x) (ev m y)<;>rfl
theorem r_lk {kt:Nat} {zv:FV} {ok:Bool}:rops cal id (⟨d,none,.lk kt zv ok x y,[]⟩::r) m h nx=@B FV (Tm × Heap × Nat) (lookup h kt zv ok (ev m y) (ev m x)) ⟨fun v=>rops cal (id + 1) r (put m d v) h nx⟩:=rops_v rfl
def muV (h:Heap) (kt:Nat) (k v:FV):FV→Option Heap
 |.map i=>match hget h i with
  |some (.mp en)=>@B (List (FV × FV)) Heap (update kt k v en) ⟨fun en'=>some (hset h i (.mp en'))⟩
  |_=>none
 |_=>none
theorem r_mu {kt:Nat}:rops cal id (⟨d,none,.mu kt x y z,re⟩::r) m h nx=@B Heap (Tm × Heap × Nat) (muV h kt (ev m y) (ev m z) (ev m x)) ⟨fun h'=>rechk h' (put m d .undef) (rops cal (id + 1) r (put m d .undef) h' nx) re⟩:=by
 rw [rops_x (v:=bnd (muV h kt (ev m y) (ev m z) (ev m x)) fun h'=>some (.undef,h',nx))]
 ·cases muV h kt (ev m y) (ev m z) (ev m x)<;>rfl
 ·simp only [opg]
  cases ev m x<;>try rfl
  simp only [muV]
  rename_i i
  cases hget h i with
  |none=>rfl
  |some o =>
   cases o with
   |row _ _=>rfl
   |lp _ _=>rfl
   |fro _ _=>rfl
   |fmp _=>rfl
   |sit _ _=>rfl
   |mit=>rfl
   |mp en=>simp only [B];cases update kt (ev m y) (ev m z) en<;>rfl
theorem r_cl {f:Nat} {as:List X}:rops cal id (⟨d,none,.cl f as,re⟩::r) m h nx=@B (FV × Heap × Nat) (Tm × Heap × Nat) (cal f (evs m as) h nx) ⟨fun p=>rechk p.2.1 (put m d p.1) (rops cal (id + 1) r (put m d p.1) p.2.1 p.2.2) re⟩:=rops_x rfl
def cwV (cal:Call) (h:Heap) (nx:Nat) (as:List FV):FV→Option (FV × Heap × Nat)
 |.fn f caps=>cal f (as ++ caps) h nx
 |.yl f i caps=>cal f (.yl f i caps::as) h nx
 |_=>none
theorem cw_y {f i:Nat} {as caps:List FV}:cwV cal h nx as (.yl f i caps)=cal f (.yl f i caps::as) h nx:=rfl
theorem cw_f {f:Nat} {as caps:List FV}:cwV cal h nx as (.fn f caps)=cal f (as ++ caps) h nx:=rfl
theorem r_cw {as:List X}:rops cal id (⟨d,none,.cw x as,re⟩::r) m h nx=@B (FV × Heap × Nat) (Tm × Heap × Nat) (cwV cal h nx (evs m as) (ev m x)) ⟨fun p=>rechk p.2.1 (put m d p.1) (rops cal (id + 1) r (put m d p.1) p.2.1 p.2.2) re⟩:=rops_x rfl
def wantB (v:FV) (c:Bool):Option Bool :=
 match v with
 |.bool b=>some (if c=true then b else !b)
 |.tup []=>some false
 |_=>none
theorem wantB_1 {b:Bool}:wantB (.bool b) true=some b:=rfl
theorem wantB_0 {b:Bool}:wantB (.bool b) false=some (!b):=rfl
theorem wantB_t {c:Bool}:wantB (.tup []) c=some false:=rfl
theorem wanted_B {t:Nat} {c:Bool}:wanted m (some (t,c))=wantB (gt m t) c:=by
 have e:∀ b c:Bool,some (b == c)=some (if c=true then b else !b):=by decide
 show (match gt m t with | .bool c'=>some (c' == c) | .tup []=>some false | _=>none)=wantB (gt m t) c
 generalize gt m t=v
 cases v with
 |bool b=>exact e b c
 |tup vs=>cases vs<;>rfl
 |_=>rfl
theorem r_gd {op:O} {t:Nat} {c:Bool}:rops cal id (⟨d,some (t,c),op,re⟩::r) m h nx =
  @B Bool (Tm × Heap × Nat) (wantB (gt m t) c) ⟨fun b=>@If (Option (Tm × Heap × Nat)) b ⟨rops cal id (⟨d,none,op,re⟩::r) m h nx,rops cal (id + 1) r (put m d (.tup [])) h nx⟩⟩:=by
 rw [← wanted_B]
 simp only [rops]
 cases wanted m (some (t,c)) with
 |none=>rfl
 |some b=>cases b<;>rfl
theorem k_nil {α:Type} {q:Option α}:rechk h m q []=q:=rfl
theorem k_cons {α:Type} {q:Option α} {ag:Option Nat} {n t:Nat} {l:List (Option (Nat × Bool) × Option Nat × Nat × Nat)}:rechk h m q ((none,ag,n,t)::l)=@B FV α (loadv h ag (gt m n)) ⟨fun v=>@Ck α (eqv v (gt m t)=true) ⟨fun _=>rechk h m q l⟩⟩:=by
 show chk (still h m (.ld ag (.t n)) t=true) (rechk h m q l)=_
 have e:opv h m (.ld ag (.t n))=loadv h ag (gt m n):=rfl
 simp only [still,e]
 cases loadv h ag (gt m n) with
 |none=>rfl
 |some v=>exact Ck_chk
theorem k_gd {α:Type} {q:Option α} {t':Nat} {c:Bool} {ag:Option Nat} {n t:Nat} {l:List (Option (Nat × Bool) × Option Nat × Nat × Nat)}:rechk h m q ((some (t',c),ag,n,t)::l)=@B Bool α (wantB (gt m t') c) ⟨fun b=>@If (Option α) b ⟨rechk h m q ((none,ag,n,t)::l),rechk h m q l⟩⟩:=by
 rw [← wanted_B]
 simp only [rechk]
 cases wanted m (some (t',c)) with
 |none=>rfl
 |some b=>cases b<;>rfl
theorem b_add {k:IntKind} {a b:Int}:binop .add (.int k a) (.int k b)=some (.int k (k.wrap (a + b))):=by simp [binop,intBin,chk]
theorem b_sub {k:IntKind} {a b:Int}:binop .sub (.int k a) (.int k b)=some (.int k (k.wrap (a - b))):=by simp [binop,intBin,chk]
theorem b_mul {k:IntKind} {a b:Int}:binop .mul (.int k a) (.int k b)=some (.int k (k.wrap (a * b))):=by simp [binop,intBin,chk]
theorem b_quo {k:IntKind} {a b:Int}:binop .quo (.int k a) (.int k b)=@Ck FV (b ≠ 0) ⟨fun _=>some (.int k (k.wrap (a.tdiv b)))⟩:=by simp [binop,intBin,chk,Ck]
theorem b_rem {k:IntKind} {a b:Int}:binop .rem (.int k a) (.int k b)=@Ck FV (b ≠ 0) ⟨fun _=>some (.int k (a.tmod b))⟩:=by simp [binop,intBin,chk,Ck]
theorem b_and {k:IntKind} {a b:Int}:binop .and (.int k a) (.int k b)=some (.int k (band k a b)):=by simp [binop,intBin,chk]
theorem b_or {k:IntKind} {a b:Int}:binop .or (.int k a) (.int k b)=some (.int k (bor k a b)):=by simp [binop,intBin,chk]
theorem b_xor {k:IntKind} {a b:Int}:binop .xor (.int k a) (.int k b)=some (.int k (bxor k a b)):=by simp [binop,intBin,chk]
theorem b_andNot {k:IntKind} {a b:Int}:binop .andNot (.int k a) (.int k b)=some (.int k (bandnot k a b)):=by simp [binop,intBin,chk]
theorem b_shl {k j:IntKind} {a b:Int}:binop .shl (.int k a) (.int j b)=@Ck FV (0 ≤ b) ⟨fun _=>some (.int k (shl k a b))⟩:=by simp [binop,chk,Ck]
theorem b_shr {k j:IntKind} {a b:Int}:binop .shr (.int k a) (.int j b)=@Ck FV (0 ≤ b) ⟨fun _=>some (.int k (shr k a b))⟩:=by simp [binop,chk,Ck]
theorem b_eql {k:IntKind} {a b:Int}:binop .eql (.int k a) (.int k b)=some (.bool (decide (a=b))):=by
 simp only [binop,chk,if_true,intBin];congr 2
theorem b_neq {k:IntKind} {a b:Int}:binop .neq (.int k a) (.int k b)=some (.bool (!decide (a=b))):=by
 simp only [binop,chk,if_true,intBin];congr 2
theorem b_lss {k:IntKind} {a b:Int}:binop .lss (.int k a) (.int k b)=some (.bool (decide (a < b))):=by simp [binop,intBin,chk]
theorem b_leq {k:IntKind} {a b:Int}:binop .leq (.int k a) (.int k b)=some (.bool (decide (a ≤ b))):=by simp [binop,intBin,chk]
theorem b_gtr {k:IntKind} {a b:Int}:binop .gtr (.int k a) (.int k b)=some (.bool (decide (b < a))):=by simp [binop,intBin,chk]
theorem b_geq {k:IntKind} {a b:Int}:binop .geq (.int k a) (.int k b)=some (.bool (decide (b ≤ a))):=by simp [binop,intBin,chk]
theorem b_sadd {a b:List UInt8}:binop .add (.str a) (.str b)=@Ck FV (a.length + b.length ≤ 4611686018427387904) ⟨fun _=>some (.str (a ++ b))⟩:=by simp [binop,strBin,chk,Ck]
theorem b_seql {a b:List UInt8}:binop .eql (.str a) (.str b)=some (.bool (a == b)):=rfl
theorem b_sneq {a b:List UInt8}:binop .neq (.str a) (.str b)=some (.bool (!(a == b))):=rfl
theorem b_slss {a b:List UInt8}:binop .lss (.str a) (.str b)=some (.bool (Op.bytesLess a b)):=rfl
theorem b_sleq {a b:List UInt8}:binop .leq (.str a) (.str b)=some (.bool (Op.bytesLess a b || a == b)):=rfl
theorem b_sgtr {a b:List UInt8}:binop .gtr (.str a) (.str b)=some (.bool !(Op.bytesLess a b || a == b)):=rfl
theorem b_sgeq {a b:List UInt8}:binop .geq (.str a) (.str b)=some (.bool !(Op.bytesLess a b)):=rfl
theorem u_neg {k:IntKind} {a:Int}:unop .neg (.int k a)=some (.int k (k.wrap (0 - a))):=rfl
theorem u_not {b:Bool}:unop .not (.bool b)=some (.bool !b):=rfl
theorem u_xor {k:IntKind} {a:Int}:unop .xor (.int k a)=some (.int k (bxor k (if k.signed then -1 else k.max) a)):=rfl
theorem ld_e {cs:List FV} {o:Nat} {ag:Option Nat}:loadv h ag (.eptr cs o)=cellsAt cs ag o:=rfl
def ldRow (st j:Nat) (ag:Option Nat) (o:Nat):Option Obj→Option FV
 |some (.row _ xs)=>@Ck FV (xs.length=st) ⟨fun _=>@B FV FV xs[j]? ⟨fun e=>cellsAt e.cells ag o⟩⟩
 |some (.fro _ xs)=>@Ck FV (xs.length=st) ⟨fun _=>@B FV FV xs[j]? ⟨fun e=>cellsAt e.cells ag o⟩⟩
 |_=>none
theorem ldRow_r {st j o es:Nat} {ag:Option Nat} {xs:List FV}:ldRow st j ag o (some (.row es xs))=@Ck FV (xs.length=st) ⟨fun _=>@B FV FV xs[j]? ⟨fun e=>cellsAt e.cells ag o⟩⟩:=rfl
theorem ldRow_f {st j o es:Nat} {ag:Option Nat} {xs:List FV}:ldRow st j ag o (some (.fro es xs))=@Ck FV (xs.length=st) ⟨fun _=>@B FV FV xs[j]? ⟨fun e=>cellsAt e.cells ag o⟩⟩:=rfl
theorem ld_p {i st j o:Nat} {ag:Option Nat}:loadv h ag (.ptr i st j o)=ldRow st j ag o (hget h i):=by
 simp only [loadv]
 cases hget h i with
 |none=>rfl
 |some q=>cases q<;>first | rfl | exact Ck_chk
def stRow (h:Heap) (sz:Nat) (v:FV) (id st j o:Nat):Option Obj→Option Heap
 |some (.row es xs)=>@Ck Heap (xs.length=st∧v.ok=true∧v.cells.length=sz) ⟨fun _=>@B FV Heap xs[j]? ⟨fun e=>@Ck Heap (o + sz ≤ e.cells.length) ⟨fun _=>some (hset h id (.row es (xs.set j (reshape e (splice e.cells o v.cells)))))⟩⟩⟩
 |_=>none
theorem stRow_r {sz id st j o es:Nat} {v:FV} {xs:List FV}:stRow h sz v id st j o (some (.row es xs))=@Ck Heap (xs.length=st∧v.ok=true∧v.cells.length=sz) ⟨fun _=>@B FV Heap xs[j]? ⟨fun e=>@Ck Heap (o + sz ≤ e.cells.length) ⟨fun _=>some (hset h id (.row es (xs.set j (reshape e (splice e.cells o v.cells)))))⟩⟩⟩:=rfl
theorem st_p {i st j o sz:Nat} {v:FV}:storev h sz v (.ptr i st j o)=stRow h sz v i st j o (hget h i):=by
 simp only [storev]
 cases hget h i with
 |none=>rfl
 |some q =>
  cases q with
  |mp en=>rfl
  |fro _ _=>rfl
  |fmp _=>rfl
  |sit _ _=>rfl
  |mit=>rfl
  |lp _ _=>rfl
  |row es xs =>
   show chk _ (bnd _ fun e=>chk _ _)=_
   rw [Ck_chk,stRow_r]
   congr 2
   funext _
   show bnd _ _=bnd _ _
   congr 1
   funext e
   exact Ck_chk
theorem resh_a {a cs:List FV}:reshape (.agg a) cs=.agg cs:=rfl
theorem resh_i {k:IntKind} {n:Int} {c:FV} {cs:List FV}:reshape (.int k n) (c::cs)=c:=rfl
theorem resh_b {b:Bool} {c:FV} {cs:List FV}:reshape (.bool b) (c::cs)=c:=rfl
theorem resh_s {b:List UInt8} {c:FV} {cs:List FV}:reshape (.str b) (c::cs)=c:=rfl
theorem resh_l {b:Bool} {xs:List FV} {c:FV} {cs:List FV}:reshape (.lst b xs) (c::cs)=c:=rfl
theorem resh_r {a b e d f:Nat} {c:FV} {cs:List FV}:reshape (.sref a b e d f) (c::cs)=c:=rfl
def elRow (st off len:Nat):Option Obj→Option (List FV)
 |some (.row _ xs)=>@Ck (List FV) (xs.length=st∧off + len ≤ st) ⟨fun _=>some (cut xs off (off + len))⟩
 |some (.fro _ xs)=>@Ck (List FV) (xs.length=st∧off + len ≤ st) ⟨fun _=>some (cut xs off (off + len))⟩
 |_=>none
theorem elRow_r {st off len es:Nat} {xs:List FV}:elRow st off len (some (.row es xs))=@Ck (List FV) (xs.length=st∧off + len ≤ st) ⟨fun _=>some (cut xs off (off + len))⟩:=rfl
theorem elRow_f {st off len es:Nat} {xs:List FV}:elRow st off len (some (.fro es xs))=@Ck (List FV) (xs.length=st∧off + len ≤ st) ⟨fun _=>some (cut xs off (off + len))⟩:=rfl
theorem el_r {es i st off len:Nat}:elems h (.sref es i st off len)=elRow st off len (hget h i):=by
 simp only [elems]
 cases hget h i with
 |none=>rfl
 |some q=>cases q<;>first | rfl | exact Ck_chk
theorem el_l {e:Bool} {xs:List FV}:elems h (.lst e xs)=some xs:=rfl
theorem el_s {b:List UInt8}:elems h (.str b)=some (b.map fun c=>.int .u8 c.toNat):=rfl
def apRow (h:Heap) (es by_ es' i st off len:Nat) (ys:List FV):Option Obj→Option (FV × Heap)
 |some (.row _ xs)=>@Ck (FV × Heap) (es'=es∧xs.length=st∧off + len ≤ st∧(off + len + ys.length) * by_ ≤ most) ⟨fun _ =>
   @If (Option (FV × Heap)) (decide (ys.length=0)) ⟨some (.sref es i st off len,h),
    @If (Option (FV × Heap)) (decide (off + len + ys.length ≤ st)) ⟨some (.sref es i st off (len + ys.length),hset h i (.row es (xs.take (off + len) ++ ys ++ xs.drop (off + len + ys.length)))),
     @Ck (FV × Heap) (off=0) ⟨fun _=>some (.sref es i (len + ys.length) 0 (len + ys.length),hset h i (.row es (xs.take len ++ ys)))⟩⟩⟩⟩
 |_=>none
theorem apRow_r {es by_ es' i st off len e:Nat} {ys xs:List FV}:apRow h es by_ es' i st off len ys (some (.row e xs))=@Ck (FV × Heap) (es'=es∧xs.length=st∧off + len ≤ st∧(off + len + ys.length) * by_ ≤ most) ⟨fun _ =>
   @If (Option (FV × Heap)) (decide (ys.length=0)) ⟨some (.sref es i st off len,h),
    @If (Option (FV × Heap)) (decide (off + len + ys.length ≤ st)) ⟨some (.sref es i st off (len + ys.length),hset h i (.row es (xs.take (off + len) ++ ys ++ xs.drop (off + len + ys.length)))),
     @Ck (FV × Heap) (off=0) ⟨fun _=>some (.sref es i (len + ys.length) 0 (len + ys.length),hset h i (.row es (xs.take len ++ ys)))⟩⟩⟩⟩:=rfl
theorem ap_r {id es by_ es' i st off len:Nat} {y:FV}:append h id es by_ (.sref es' i st off len) y=@B (List FV) (FV × Heap) (elems h y) ⟨fun ys=>@Ck (FV × Heap) (ys.all FV.ok=true∧(ys.all fun v=>v.cells.length == es)=true) ⟨fun _=>apRow h es by_ es' i st off len ys (hget h i)⟩⟩:=by
 unfold append
 show bnd _ _=bnd _ _
 congr 1
 funext ys
 rw [Ck_chk]
 congr 1
 congr 1
 funext _
 show (match hget h i with
   |some (.row _ xs)=>chk (es'=es∧xs.length=st∧off + len ≤ st∧(off + len + ys.length) * by_ ≤ most) <|
     if ys.length=0 then some (FV.sref es i st off len,h)
     else if off + len + ys.length ≤ st then
      some (FV.sref es i st off (len + ys.length),hset h i (.row es (xs.take (off + len) ++ ys ++ xs.drop (off + len + ys.length))))
     else chk (off=0) (some (FV.sref es i (len + ys.length) 0 (len + ys.length),hset h i (.row es (xs.take len ++ ys))))
   |_=>none:Option (FV × Heap))=_
 cases hget h i with
 |none=>rfl
 |some q =>
  cases q with
  |mp en=>rfl
  |fro _ _=>rfl
  |fmp _=>rfl
  |sit _ _=>rfl
  |mit=>rfl
  |lp _ _=>rfl
  |row e xs =>
   show chk _ _=_
   rw [Ck_chk,apRow_r]
   congr 2
   funext _
   unfold If
   rw [Ck_chk]
   simp only [decide_eq_true_eq]
theorem hset_self {i:Nat} {o:Obj}:∀ {h:Heap},hget h i=some o→hset h i o=h:=by
 intro h
 induction h with
 |nil=>intro hh;cases hh
 |cons p h ih =>
  obtain ⟨j,v⟩:=p
  intro hh
  simp only [hget] at hh
  simp only [hset]
  split
  ·rename_i e
   rw [if_pos e] at hh
   cases hh
   rw [e]
  ·rename_i e
   rw [if_neg e] at hh
   rw [ih hh]
theorem eqc_n:eqCells [] [] []=some true:=rfl
theorem eqc_c {k:Nat} {ks:List Nat} {a b:FV} {r q:List FV}:eqCells (k::ks) (a::r) (b::q)=@B Bool Bool (eqCell k a b) ⟨fun e=>@B Bool Bool (eqCells ks r q) ⟨fun f=>some (e && f)⟩⟩:=rfl
theorem eqc_0 {k:IntKind} {a b:Int}:eqCell 0 (.int k a) (.int k b)=some (a == b):=if_pos rfl
theorem eqc_1 {a b:List UInt8}:eqCell 1 (.str a) (.str b)=some (a == b):=rfl
theorem eqc_2 {a b:Bool}:eqCell 2 (.bool a) (.bool b)=some (a == b):=rfl
theorem apRow_full {es by_ i n:Nat} {ys xs:List FV} (hh:hget h i=some (.row es xs)) (hl:xs.length=n) (hb:(n + ys.length) * by_ ≤ 1099511627776) :
  apRow h es by_ es i n 0 n ys (some (.row es xs))=some (.sref es i (n + ys.length) 0 (n + ys.length),hset h i (.row es (xs ++ ys))):=by
 rw [apRow_r,Ck_pos ⟨rfl,hl,by omega,by rw [Nat.zero_add];exact hb⟩]
 by_cases h0:ys.length=0
 ·have:ys=[]:=List.length_eq_zero_iff.1 h0
  subst this
  simp only [List.length_nil,decide_true,If_t,Nat.add_zero,List.append_nil]
  rw [hset_self hh]
 ·simp only [h0,decide_false,If_f,Nat.zero_add]
  rw [show decide (n + ys.length ≤ n)=false from decide_eq_false (by omega),If_f,Ck_pos rfl,List.take_of_length_le (by omega)]
theorem ap_l {id es by_:Nat} {xs:List FV} {y:FV}:append h id es by_ (.lst true xs) y=@B (List FV) (FV × Heap) (elems h y) ⟨fun ys=>@Ck (FV × Heap) (ys.all FV.ok=true∧(ys.all fun v=>v.cells.length == es)=true) ⟨fun _ =>
  @Ck (FV × Heap) ((xs.length + ys.length) * by_ ≤ most∧ys.length ≠ 0∧(xs.all fun v=>v.cells.length == es)=true) ⟨fun _=>some (.sref es id (xs.length + ys.length) 0 (xs.length + ys.length),(id,.row es (xs ++ ys))::h)⟩⟩⟩:=by
 unfold append
 show bnd _ _=bnd _ _
 congr 1
 funext ys
 rw [Ck_chk]
 congr 1
 congr 1
 funext _
 exact Ck_chk
theorem fa_p {o i s j q:Nat}:faV o (.ptr i s j q)=some (.ptr i s j (q + o)):=rfl
theorem fa_e {o q:Nat} {cs:List FV}:faV o (.eptr cs q)=some (.eptr cs (q + o)):=rfl
theorem ca_0 {c:FV} {cs:List FV}:cellsAt (c::cs) none 0=some c:=rfl
theorem ca_s {c:FV} {cs:List FV} {n:Nat}:cellsAt (c::cs) none (n + 1)=cellsAt cs none n:=by simp [cellsAt]
theorem ca_g {cs:List FV} {n o:Nat}:cellsAt cs (some n) o=@Ck FV (o + n ≤ cs.length) ⟨fun _=>some (.agg (cut cs o (o + n)))⟩:=Ck_chk
end
section
variable {T:Tab} {k:List I} {m:Tm} {h:Heap} {nx:Nat}
abbrev Out:=Ex × Tm × Heap × Nat
def boolV:FV→Option Bool
 |.bool b=>some b
 |_=>none
theorem boolV_b {b:Bool}:boolV (.bool b)=some b:=rfl
theorem w_cd {x:X} {a b:C}:runs T (.code (.cd x a b)::k) m h nx=@B Bool Out (boolV (ev m x)) ⟨fun t=>@If (Option Out) t ⟨runs T (.code a::k) m h nx,runs T (.code b::k) m h nx⟩⟩:=by
 rw [runs_cd]
 cases ev m x<;>rfl
theorem w_rg {d:Option (List Nat)} {gs:List G} {keep:List Nat}:runs T (.code (.rg d gs keep)::k) m h nx=@B (Tm × Heap × Nat) Out (rops (np (lim T)) nx gs m h (nx + gs.length)) ⟨fun x=>runs T k (keepOf x.1 keep) x.2.1 x.2.2⟩:=runs_rg
theorem w_xt {id:Nat} {k':List I} (hk:exitTo id k=some k'):runs T (.code (.xt id)::k) m h nx=runs T k' m h nx:=by rw [runs_xt,hk]
theorem xt_b {id:Nat}:exitTo id (.inB id::k)=some k:=if_pos rfl
theorem xt_c {id:Nat} {c:C}:exitTo id (.code c::k)=exitTo id k:=rfl
theorem xt_l {id:Nat} {t:Option Nat} {c:C}:exitTo id (.inL t c::k)=exitTo id k:=rfl
theorem w_x0 {id:Nat}:runs T (.code (.xt id)::.inB id::k) m h nx=runs T k m h nx:=w_xt xt_b
theorem w_xb {id j:Nat} (hj:j ≠ id):runs T (.code (.xt id)::.inB j::k) m h nx=runs T (.code (.xt id)::k) m h nx:=by
 rw [runs_xt,runs_xt,show exitTo id (.inB j::k)=exitTo id k from if_neg hj]
theorem w_xc {id:Nat} {c:C}:runs T (.code (.xt id)::.code c::k) m h nx=runs T (.code (.xt id)::k) m h nx:=by rw [runs_xt,runs_xt,xt_c]
theorem w_xl {id:Nat} {t:Option Nat} {c:C}:runs T (.code (.xt id)::.inL t c::k) m h nx=runs T (.code (.xt id)::k) m h nx:=by rw [runs_xt,runs_xt,xt_l]
theorem w_inL {b:Nat} {c:C}:runs T (.inL (some b) c::k) m h nx=@Ck Out (b ≤ nx∧lowTm b m=true∧lowHeap b (cutH b h)=true) ⟨fun _=>runs T (.code c::.inL (some b) c::k) m (cutH b h) b⟩:=by
 rw [runs_inL,Ck_chk]
theorem w_lp1 {c:C}:runs T (.code (.lp true c)::k) m h nx=runs T (.code c::.inL (some nx) c::k) m h nx:=runs_lp
theorem w_lp0 {c:C}:runs T (.code (.lp false c)::k) m h nx=runs T (.code c::.inL none c::k) m h nx:=runs_lp
theorem Ok_inL {b:Nat} {c:C} {q:Post Out} (h1:b ≤ nx) (h2:lowTm b m=true) (h3:lowHeap b (cutH b h)=true) (h4:@Ok Out (runs T (.code c::.inL (some b) c::k) m (cutH b h) b) q):@Ok Out (runs T (.inL (some b) c::k) m h nx) q:=by
 rw [w_inL]
 exact Ok_ck ⟨h1,h2,h3⟩ h4
theorem Ok_inL0 {c:C} {q:Post Out} (h4:@Ok Out (runs T (.code c::.inL none c::k) m h nx) q):@Ok Out (runs T (.inL none c::k) m h nx) q:=by
 rw [runs_inL0]
 exact h4
theorem unf {c c':C} (hc:c=c'):runs T (.code c::k) m h nx=runs T (.code c'::k) m h nx:=by rw [hc]
def resV (rs:List RV) (x:Out):Option FV :=
 match x.1 with
 |.xt _=>none
 |.pan v=>frz x.2.2.1 deep (.pan v)
 |_=>@B (List FV) FV (readRes x.2.1 x.2.2.1 rs) ⟨fun vs=>frz x.2.2.1 deep (result vs)⟩
theorem resV_ret {rs:List RV}:resV rs (.ret,m,h,nx)=@B (List FV) FV (readRes m h rs) ⟨fun vs=>frz h deep (result vs)⟩:=rfl
theorem resV_fin {rs:List RV}:resV rs (.fin,m,h,nx)=@B (List FV) FV (readRes m h rs) ⟨fun vs=>frz h deep (result vs)⟩:=rfl
theorem rr_nil:readRes m h []=some []:=rfl
theorem rr_t {n:Nat} {r:List RV}:readRes m h (.t n::r)=@B (List FV) (List FV) (readRes m h r) ⟨fun vs=>some (gt m n::vs)⟩:=rfl
theorem rr_c {n:Nat} {ag:Option Nat} {r:List RV}:readRes m h (.cell n ag::r)=@B FV (List FV) (loadv h ag (gt m n)) ⟨fun v=>@B (List FV) (List FV) (readRes m h r) ⟨fun vs=>some (v::vs)⟩⟩:=rfl
theorem frz_int {h:Heap} {n:Nat} {k:IntKind} {a:Int}:frz h n (.int k a)=some (.int k a):=frz_pure rfl
theorem frz_bool {h:Heap} {n:Nat} {b:Bool}:frz h n (.bool b)=some (.bool b):=frz_pure rfl
theorem frz_str {h:Heap} {n:Nat} {b:List UInt8}:frz h n (.str b)=some (.str b):=frz_pure rfl
theorem fz_agg {n:Nat} {cs:List FV} (hl:cs.length ≤ n):frz h (n + 1) (.agg cs)=@B (List FV) FV (frzs h n cs) ⟨fun r=>some (.agg r)⟩:=by
 cases hp:pure_ (.agg cs) with
 |false=>exact frz_agg hp
 |true=>rw [frz_pure hp,frzs_pure (by simpa [pure_] using hp) hl];rfl
theorem fz_tup {n:Nat} {cs:List FV} (hl:cs.length ≤ n):frz h (n + 1) (.tup cs)=@B (List FV) FV (frzs h n cs) ⟨fun r=>some (.tup r)⟩:=by
 cases hp:pure_ (.tup cs) with
 |false=>exact frz_tup hp
 |true=>rw [frz_pure hp,frzs_pure (by simpa [pure_] using hp) hl];rfl
theorem fz_ref {n es id st off len:Nat} (he:es ≠ 0):frz h (n + 1) (.sref es id st off len)=@B (List FV) FV (elems h (.sref es id st off len)) ⟨fun xs=>@B (List FV) FV (frzs h n xs) ⟨fun r=>some (.lst false r)⟩⟩:=frz_sref he
theorem fzs_n {n:Nat}:frzs h n []=some []:=by cases n<;>rfl
theorem fzs_c {n:Nat} {v:FV} {r:List FV}:frzs h (n + 1) (v::r)=@B FV (List FV) (frz h n v) ⟨fun v'=>@B (List FV) (List FV) (frzs h n r) ⟨fun r'=>some (v'::r')⟩⟩:=rfl
theorem frz_lst {n:Nat} {e:Bool} {xs:List FV} (hp:pures xs=true):frz h n (.lst e xs)=some (.lst e xs):=frz_pure hp
theorem frz_e {n:Nat} {e:Bool}:frz h n (.lst e [])=some (.lst e []):=frz_pure rfl
theorem lim_iso {f:Nat} {d:Fn} {args:List FV} {r:FV} (ht:tget T f=some (.fn d)) (hm:d.mode=.iso) (hn:args.length=d.np) (hp:pures args=true)
  (hr:@Ok Out (runs T [.code d.body] (params 0 args) [] 0) ⟨fun x=>resV d.res x=some r⟩) (hlt:f < RB:=by decide):∀ h nx,lim T f args h nx=some (r,h,nx):=by
 intro h nx
 obtain ⟨x,h1,h2⟩:=hr
 rw [lim_fn ht hlt,enter_isoE hm hn hp,h1]
 show (bnd (finish d x) fun v=>bnd (frz x.2.2.1 deep v) fun r=>some (r,h,nx))=_
 obtain ⟨e,m',h',nx'⟩:=x
 have key:∀ {vs:Option (List FV)},(@B (List FV) FV vs ⟨fun vs=>frz h' deep (result vs)⟩)=some r→(bnd (bnd vs fun vs=>some (result vs)) fun v=>bnd (frz h' deep v) fun r=>some (r,h,nx))=some (r,h,nx):=by
  intro vs hv
  cases vs with
  |none=>cases hv
  |some vs =>
   have hv:frz h' deep (result vs)=some r:=hv
   show (bnd (frz h' deep (result vs)) fun r=>some (r,h,nx))=_
   rw [hv]
   rfl
 cases e with
 |xt i=>cases h2
 |fin=>exact key h2
 |ret=>exact key h2
 |pan u =>
  have h2:frz h' deep (.pan u)=some r:=h2
  show (bnd (frz h' deep (.pan u)) fun r=>some (r,h,nx))=_
  rw [h2]
  rfl
end
theorem lim_isoP {T:Tab} {f:Nat} {d:Fn} {args:List FV} {p:FV→Prop} (ht:tget T f=some (.fn d)) (hm:d.mode=.iso) (hn:args.length=d.np) (hp:pures args=true)
  (hr:@Ok Out (runs T [.code d.body] (params 0 args) [] 0) ⟨fun x=>@Ok FV (resV d.res x) ⟨p⟩⟩) (hlt:f < RB:=by decide):∃ r,p r∧∀ h nx,lim T f args h nx=some (r,h,nx):=by
 obtain ⟨x,h1,r,h2,h3⟩:=hr
 exact ⟨r,h3,lim_iso ht hm hn hp ⟨x,h1,h2⟩ hlt⟩
mutual
theorem eqv_refl:∀ v:FV,eqv v v=true
 |.undef | .nilp | .nilm | .nilf | .nili=>rfl
 |.bool a=>by simp [eqv]
 |.int k a=>by simp [eqv]
 |.str a=>by simp [eqv]
 |.agg a=>by simp [eqv,eqvs_refl a]
 |.tup a=>by simp [eqv,eqvs_refl a]
 |.lst e a=>by simp [eqv,eqvs_refl a]
 |.eptr a i=>by simp [eqv,eqvs_refl a]
 |.ptr a b c d=>by simp [eqv]
 |.sref a b c d e=>by simp [eqv]
 |.map a=>by simp [eqv]
 |.fn f a=>by simp [eqv,eqvs_refl a]
 |.ifc t a=>by simp [eqv,eqv_refl a]
 |.pan a=>by simp [eqv,eqv_refl a]
 |.yl f i a=>by simp [eqv,eqvs_refl a]
theorem eqvs_refl:∀ vs:List FV,eqvs vs vs=true
 |[]=>rfl
 |v::vs=>by simp [eqvs,eqv_refl v,eqvs_refl vs]
end
theorem hg_eq {i:Nat} {o:Obj} {r:Heap}:hget ((i,o)::r) i=some o:=if_pos rfl
theorem hg_ne {i t:Nat} {o:Obj} {r:Heap} (h:i ≠ t):hget ((i,o)::r) t=hget r t:=if_neg h
theorem hs_eq {i:Nat} {v o:Obj} {r:Heap}:hset ((i,v)::r) i o=(i,o)::r:=if_pos rfl
theorem hs_ne {i t:Nat} {v o:Obj} {r:Heap} (h:i ≠ t):hset ((i,v)::r) t o=(i,v)::hset r t o:=if_neg h
theorem hgs_ne {i j:Nat} {o:Obj} (hij:i ≠ j):∀ {h:Heap},hget (hset h i o) j=hget h j:=by
 intro h
 induction h with
 |nil=>rfl
 |cons p h ih =>
  obtain ⟨k,v⟩:=p
  simp only [hset]
  split
  ·rename_i e
   simp only [hget,if_neg hij,if_neg (show ¬ k=j by omega)]
  ·simp only [hget,ih]
theorem hgs_eq {i:Nat} {o q:Obj}:∀ {h:Heap},hget h i=some q→hget (hset h i o) i=some o:=by
 intro h
 induction h with
 |nil=>intro hh;cases hh
 |cons p h ih =>
  obtain ⟨k,v⟩:=p
  intro hh
  simp only [hget] at hh
  simp only [hset]
  split
  ·rename_i e
   simp only [hget,if_pos e]
  ·rename_i e
   rw [if_neg e] at hh
   simp only [hget,if_neg e,ih hh]
theorem hss_eq {i:Nat} {o p:Obj}:∀ {h:Heap},hset (hset h i o) i p=hset h i p:=by
 intro h
 induction h with
 |nil=>rfl
 |cons q h ih =>
  obtain ⟨k,v⟩:=q
  simp only [hset]
  split
  ·rename_i e;simp only [hset,if_pos e]
  ·rename_i e;simp only [hset,if_neg e,ih]
def finV (rs:List RV) (x:Out):Option FV :=
 match x.1 with
 |.xt _=>none
 |.pan v=>some (.pan v)
 |_=>@B (List FV) FV (readRes x.2.1 x.2.2.1 rs) ⟨fun vs=>some (result vs)⟩
section
variable {m:Tm} {h:Heap} {nx:Nat}
theorem finV_ret {rs:List RV}:finV rs (.ret,m,h,nx)=@B (List FV) FV (readRes m h rs) ⟨fun vs=>some (result vs)⟩:=rfl
theorem finV_fin {rs:List RV}:finV rs (.fin,m,h,nx)=@B (List FV) FV (readRes m h rs) ⟨fun vs=>some (result vs)⟩:=rfl
end
theorem fin_V (d:Fn) (x:Out):finish d x=finV d.res x:=by
 obtain ⟨e,m,h,nx⟩:=x
 cases e<;>rfl
theorem lim_shr {T:Tab} {f:Nat} {d:Fn} {args:List FV} {h:Heap} {nx:Nat} (ht:tget T f=some (.fn d)) (hm:d.mode=.shr) (hn:args.length=d.np) (hlt:f < RB:=by decide) :
  lim T f args h nx=@B Out (FV × Heap × Nat) (runs T [.code d.body] (params 0 args) h nx) ⟨fun x=>@B FV (FV × Heap × Nat) (finV d.res x) ⟨fun v=>some (v,x.2.2.1,x.2.2.2)⟩⟩:=by
 rw [lim_fn ht hlt]
 unfold enterWith
 rw [chk,if_pos hn,hm]
 show bnd _ _=bnd _ _
 congr 1
 funext x
 rw [fin_V]
 rfl
def isfR (T:Tab) (d:Fn) (as:List FV) (h:Heap) (nx:Nat):Option (FV × Heap × Nat) :=
 @B Out (FV × Heap × Nat) (runs T [.code d.body] (params 0 as) [] 0) ⟨fun x=>@B FV (FV × Heap × Nat) (finV d.res x) ⟨fun v=>@Ck (FV × Heap × Nat) (flat v=true) ⟨fun _=>some (v,h,nx)⟩⟩⟩
theorem lim_isf {T:Tab} {f:Nat} {d:Fn} {args:List FV} {h:Heap} {nx:Nat} (ht:tget T f=some (.fn d)) (hm:d.mode=.isf) (hn:args.length=d.np) (hlt:f < RB:=by decide) :
  lim T f args h nx=@B (List FV) (FV × Heap × Nat) (frzs h deep args) ⟨fun as=>isfR T d as h nx⟩:=by
 rw [lim_fn ht hlt]
 unfold enterWith
 rw [chk,if_pos hn,hm]
 show bnd _ _=bnd _ _
 congr 1
 funext as
 show bnd _ _=bnd _ _
 congr 1
 funext x
 rw [fin_V]
 show bnd _ _=bnd _ _
 congr 1
 funext v
 exact Ck_chk
theorem isfR_of {T:Tab} {d:Fn} {as:List FV} {v:FV} {h:Heap} {nx:Nat} (hv:flat v=true) (hr:@Ok Out (runs T [.code d.body] (params 0 as) [] 0) ⟨fun x=>finV d.res x=some v⟩):isfR T d as h nx=some (v,h,nx):=by
 obtain ⟨x,h1,h2⟩:=hr
 unfold isfR
 rw [h1,B_some,h2,B_some,Ck_pos hv]
theorem pures_map {α:Type} {f:α→FV} (hf:∀ a,pure_ (f a)=true):∀ l:List α,pures (l.map f)=true:=by
 intro l
 induction l with
 |nil=>rfl
 |cons a l ih=>simp [pures,hf,ih]
theorem lows_map {α:Type} {b:Nat} {f:α→FV} (hf:∀ a,low b (f a)=true):∀ l:List α,lows b (l.map f)=true:=by
 intro l
 induction l with
 |nil=>rfl
 |cons a l ih=>simp [lows,hf,ih]
theorem all_map {α β:Type} {f:α→β} {p:β→Bool} (hf:∀ a,p (f a)=true):∀ l:List α,(l.map f).all p=true:=by
 intro l
 induction l with
 |nil=>rfl
 |cons a l ih=>simp only [List.map_cons,List.all_cons,hf,ih,Bool.and_self]
theorem getD_map {α β:Type} {f:α→β} {l:List α} {i:Nat} {d:β} (z:α) (h:i < l.length):(l.map f).getD i d=f (l.getD i z):=by
 simp [List.getD,h]
theorem take_full {α:Type} {l:List α} {n:Nat} (h:l.length ≤ n):l.take n=l:=List.take_of_length_le h
theorem wrapu64 {n:Int} (h1:0 ≤ n) (h2:n ≤ 18446744073709551615):IntKind.u64.wrap n=n:=by
 simp [IntKind.wrap,IntKind.bits,IntKind.signed]
 omega
theorem wrapu8 {n:Int} (h1:0 ≤ n) (h2:n ≤ 255):IntKind.u8.wrap n=n:=by
 simp [IntKind.wrap,IntKind.bits,IntKind.signed]
 omega
theorem wrapi8 {n:Int} (h1:-128 ≤ n) (h2:n ≤ 127):IntKind.i8.wrap n=n:=by
 simp [IntKind.wrap,IntKind.bits,IntKind.signed]
 omega
theorem shr_div {k:IntKind} {a b:Int} (hb:0 ≤ b):shr k a b=a / 2 ^ (min b.toNat k.bits):=by
 unfold shr
 exact Int.fdiv_eq_ediv_of_nonneg _ (Int.pow_nonneg (by decide))
theorem shr1 {a:Int}:shr .u64 a 1=a / 2:=by
 rw [shr_div (by decide)]
 rfl
theorem gt_c {i t:Nat} {v:FV} {r:Tm}:gt ((i,v)::r) t=if i=t then v else gt r t:=rfl
theorem gt_n {t:Nat}:gt [] t=.undef:=rfl
theorem ev_t {m:Tm} {n:Nat}:ev m (.t n)=gt m n:=rfl
theorem ev_c {m:Tm} {v:FV}:ev m (.c v)=v:=rfl
theorem put_s {m:Tm} {d:Nat} {v:FV}:put m (some d) v=(d,v)::m:=rfl
theorem put_n {m:Tm} {v:FV}:put m none v=m:=rfl
theorem keep_n {m:Tm}:keepOf m []=[]:=rfl
theorem keep_c {m:Tm} {t:Nat} {ts:List Nat}:keepOf m (t::ts)=(t,gt m t)::keepOf m ts:=rfl
theorem hget_c {i t:Nat} {o:Obj} {r:Heap}:hget ((i,o)::r) t=if i=t then some o else hget r t:=rfl
theorem evs_n {m:Tm}:evs m []=[]:=rfl
theorem evs_c {m:Tm} {x:X} {xs:List X}:evs m (x::xs)=ev m x::evs m xs:=rfl
theorem evps_n {m:Tm}:evps m []=[]:=rfl
theorem evps_c {m:Tm} {a b:Nat} {x:X} {r:List (Nat × Nat × X)}:evps m ((a,b,x)::r)=(a,b,ev m x)::evps m r:=rfl
theorem evpe_n {m:Tm}:evpe m []=[]:=rfl
theorem evpe_c {m:Tm} {a:Nat} {x:X} {r:List (Nat × X)}:evpe m ((a,x)::r)=(a,ev m x)::evpe m r:=rfl
theorem optV_n {m:Tm}:optV m none=none:=rfl
theorem optV_s {m:Tm} {x:X}:optV m (some x)=some (ev m x):=rfl
theorem par_n {i:Nat}:params i []=[]:=rfl
theorem par_c {i:Nat} {v:FV} {r:List FV}:params i (v::r)=(i,v)::params (i + 1) r:=rfl
theorem res_1 {v:FV}:result [v]=v:=rfl
theorem res_2 {v w:FV} {r:List FV}:result (v::w::r)=.tup (v::w::r):=rfl
theorem if_tt {α:Type} {x y:α}:(if true=true then x else y)=x:=rfl
theorem if_ft {α:Type} {x y:α}:(if false=true then x else y)=y:=rfl
theorem cut_d {α:Type} {s:List α} {i j:Nat}:cut s i j=(s.drop i).take (j - i):=rfl
theorem spl_d {cs vs:List FV} {o:Nat}:splice cs o vs=cs.take o ++ vs ++ cs.drop (o + vs.length):=rfl
theorem cells_a {cs:List FV}:(FV.agg cs).cells=cs:=rfl
theorem cells_i {k:IntKind} {n:Int}:(FV.int k n).cells=[.int k n]:=rfl
theorem cells_b {b:Bool}:(FV.bool b).cells=[.bool b]:=rfl
theorem cells_s {b:List UInt8}:(FV.str b).cells=[.str b]:=rfl
theorem cells_l {b:Bool} {xs:List FV}:(FV.lst b xs).cells=[.lst b xs]:=rfl
theorem cells_r {a b c d e:Nat}:(FV.sref a b c d e).cells=[.sref a b c d e]:=rfl
theorem ok_i {k:IntKind} {n:Int}:(FV.int k n).ok=true:=rfl
theorem ok_b {b:Bool}:(FV.bool b).ok=true:=rfl
theorem ok_s {b:List UInt8}:(FV.str b).ok=true:=rfl
theorem ok_l {b:Bool} {xs:List FV}:(FV.lst b xs).ok=true:=rfl
theorem ok_r {a b c d e:Nat}:(FV.sref a b c d e).ok=true:=rfl
theorem ok_a {cs:List FV}:(FV.agg cs).ok=cs.all FV.one:=rfl
theorem one_i {k:IntKind} {n:Int}:(FV.int k n).one=true:=rfl
theorem one_b {b:Bool}:(FV.bool b).one=true:=rfl
theorem one_s {b:List UInt8}:(FV.str b).one=true:=rfl
theorem one_l {b:Bool} {xs:List FV}:(FV.lst b xs).one=true:=rfl
theorem one_r {a b c d e:Nat}:(FV.sref a b c d e).one=true:=rfl
theorem EV1:type_of% (And.intro @B_some <| And.intro @B_none <| And.intro @B_If <| And.intro @B_Ck <| And.intro @Ck_true <| And.intro @If_t <| And.intro @If_f <| And.intro @If_not <| And.intro @Ok_some <|
 And.intro @r_nil <| And.intro @r_mv <| And.intro @r_pk <| And.intro @r_bo <| And.intro @r_be <| And.intro @r_eq <| And.intro @r_un <| And.intro @r_ix <| And.intro @r_ln0 <| And.intro @r_ln1 <| And.intro @r_ln2 <| And.intro @r_mx <| And.intro @r_mn <| And.intro @r_cv <| And.intro @r_ld <| And.intro @r_fa <| And.intro @r_fd <| And.intro @r_ia <| And.intro @r_aa <| And.intro @r_nc <| And.intro @r_ex <| And.intro @r_sl <| And.intro @r_bd <| And.intro @r_mf <| And.intro @r_mi <| And.intro @r_sx <| And.intro @sx_s <| And.intro @r_bx <| And.intro @r_al <| And.intro @r_bs <| And.intro @r_ms <| And.intro @r_nl <| And.intro @r_mm <| And.intro @r_st <| And.intro @r_ap <| And.intro @r_lk <| And.intro @r_mu <| And.intro @r_cl <| And.intro @r_cw <|
 And.intro @r_gd <| And.intro @wantB_1 <| And.intro @wantB_0 <| And.intro @wantB_t <| And.intro @k_nil <| And.intro @k_cons <| @k_gd):=And.intro @B_some <| And.intro @B_none <| And.intro @B_If <| And.intro @B_Ck <| And.intro @Ck_true <| And.intro @If_t <| And.intro @If_f <| And.intro @If_not <| And.intro @Ok_some <|
 And.intro @r_nil <| And.intro @r_mv <| And.intro @r_pk <| And.intro @r_bo <| And.intro @r_be <| And.intro @r_eq <| And.intro @r_un <| And.intro @r_ix <| And.intro @r_ln0 <| And.intro @r_ln1 <| And.intro @r_ln2 <| And.intro @r_mx <| And.intro @r_mn <| And.intro @r_cv <| And.intro @r_ld <| And.intro @r_fa <| And.intro @r_fd <| And.intro @r_ia <| And.intro @r_aa <| And.intro @r_nc <| And.intro @r_ex <| And.intro @r_sl <| And.intro @r_bd <| And.intro @r_mf <| And.intro @r_mi <| And.intro @r_sx <| And.intro @sx_s <| And.intro @r_bx <| And.intro @r_al <| And.intro @r_bs <| And.intro @r_ms <| And.intro @r_nl <| And.intro @r_mm <| And.intro @r_st <| And.intro @r_ap <| And.intro @r_lk <| And.intro @r_mu <| And.intro @r_cl <| And.intro @r_cw <|
 And.intro @r_gd <| And.intro @wantB_1 <| And.intro @wantB_0 <| And.intro @wantB_t <| And.intro @k_nil <| And.intro @k_cons <| @k_gd
theorem EV2:type_of% (And.intro @b_add <| And.intro @b_sub <| And.intro @b_mul <| And.intro @b_quo <| And.intro @b_rem <| And.intro @b_and <| And.intro @b_or <| And.intro @b_xor <| And.intro @b_andNot <| And.intro @b_shl <| And.intro @b_shr <| And.intro @b_eql <| And.intro @b_neq <| And.intro @b_lss <| And.intro @b_leq <| And.intro @b_gtr <| And.intro @b_geq <| And.intro @b_sadd <| And.intro @b_seql <| And.intro @b_sneq <| And.intro @b_slss <| And.intro @b_sleq <| And.intro @b_sgtr <| And.intro @b_sgeq <| And.intro @u_neg <| And.intro @u_not <| And.intro @u_xor <|
 And.intro @ld_e <| And.intro @ld_p <| And.intro @ldRow_r <| And.intro @ldRow_f <| And.intro @st_p <| And.intro @stRow_r <| And.intro @resh_a <| And.intro @resh_i <| And.intro @resh_b <| And.intro @resh_s <| And.intro @resh_l <| And.intro @resh_r <| And.intro @elRow_r <| And.intro @elRow_f <| And.intro @el_r <| And.intro @el_l <| And.intro @el_s <| And.intro @apRow_full <| And.intro @mx_i <| And.intro @beV_b <| And.intro @cw_f <|  And.intro @mn_i <| And.intro @idx_n <| And.intro @idx_s <| And.intro @sl_str <| And.intro @sl_lst <| And.intro @sl_ref <| And.intro @eqc_n <| And.intro @eqc_c <| And.intro @eqc_0 <| And.intro @eqc_1 <| And.intro @eqc_2 <| And.intro @ap_r <| And.intro @ap_l <| And.intro @fa_p <| And.intro @fa_e <| And.intro @ixV_s <| And.intro @lenV_s <| And.intro @lenV_l <| And.intro @lenV_r <| And.intro @fdV_agg <| And.intro @iaV_l <| And.intro @iaV_r <| And.intro @exV_t <| And.intro @fillV_nil <| And.intro @fillV_cons <| And.intro @fillE_nil <| And.intro @fillE_cons <| And.intro @msV_i <| @ca_g):=And.intro @b_add <| And.intro @b_sub <| And.intro @b_mul <| And.intro @b_quo <| And.intro @b_rem <| And.intro @b_and <| And.intro @b_or <| And.intro @b_xor <| And.intro @b_andNot <| And.intro @b_shl <| And.intro @b_shr <| And.intro @b_eql <| And.intro @b_neq <| And.intro @b_lss <| And.intro @b_leq <| And.intro @b_gtr <| And.intro @b_geq <| And.intro @b_sadd <| And.intro @b_seql <| And.intro @b_sneq <| And.intro @b_slss <| And.intro @b_sleq <| And.intro @b_sgtr <| And.intro @b_sgeq <| And.intro @u_neg <| And.intro @u_not <| And.intro @u_xor <|
 And.intro @ld_e <| And.intro @ld_p <| And.intro @ldRow_r <| And.intro @ldRow_f <| And.intro @st_p <| And.intro @stRow_r <| And.intro @resh_a <| And.intro @resh_i <| And.intro @resh_b <| And.intro @resh_s <| And.intro @resh_l <| And.intro @resh_r <| And.intro @elRow_r <| And.intro @elRow_f <| And.intro @el_r <| And.intro @el_l <| And.intro @el_s <| And.intro @apRow_full <| And.intro @mx_i <| And.intro @beV_b <| And.intro @cw_f <|  And.intro @mn_i <| And.intro @idx_n <| And.intro @idx_s <| And.intro @sl_str <| And.intro @sl_lst <| And.intro @sl_ref <| And.intro @eqc_n <| And.intro @eqc_c <| And.intro @eqc_0 <| And.intro @eqc_1 <| And.intro @eqc_2 <| And.intro @ap_r <| And.intro @ap_l <| And.intro @fa_p <| And.intro @fa_e <| And.intro @ixV_s <| And.intro @lenV_s <| And.intro @lenV_l <| And.intro @lenV_r <| And.intro @fdV_agg <| And.intro @iaV_l <| And.intro @iaV_r <| And.intro @exV_t <| And.intro @fillV_nil <| And.intro @fillV_cons <| And.intro @fillE_nil <| And.intro @fillE_cons <| And.intro @msV_i <| @ca_g
theorem EV3:type_of% (And.intro @runs_nil <| And.intro @runs_rt <| And.intro @runs_sk <| And.intro @runs_inB <| And.intro @runs_sq <| And.intro @runs_bl <| And.intro @w_cd <| And.intro @w_rg <| And.intro @boolV_b <| And.intro @w_x0 <| And.intro @w_xc <| @w_xl):=And.intro @runs_nil <| And.intro @runs_rt <| And.intro @runs_sk <| And.intro @runs_inB <| And.intro @runs_sq <| And.intro @runs_bl <| And.intro @w_cd <| And.intro @w_rg <| And.intro @boolV_b <| And.intro @w_x0 <| And.intro @w_xc <| @w_xl
theorem EV4:type_of% (And.intro @gt_c <| And.intro @gt_n <| And.intro @ev_t <| And.intro @ev_c <| And.intro @put_s <| And.intro @put_n <| And.intro @keep_n <| And.intro @keep_c <| And.intro @hg_eq <| And.intro @hg_ne <| And.intro @hs_eq <| And.intro @hss_eq <| And.intro @hs_ne <| And.intro @evs_n <| And.intro @evs_c <| And.intro @evps_n <| And.intro @evps_c <| And.intro @evpe_n <| And.intro @evpe_c <| And.intro @optV_n <| And.intro @optV_s <| And.intro @par_n <| And.intro @par_c <| And.intro @res_1 <| And.intro @res_2 <| And.intro @if_tt <| And.intro @if_ft <|
 And.intro @cut_d <| And.intro @spl_d <| And.intro @cells_a <| And.intro @cells_i <| And.intro @cells_b <| And.intro @cells_s <| And.intro @cells_l <| And.intro @cells_r <| And.intro @ok_i <| And.intro @ok_b <| And.intro @ok_s <| And.intro @ok_l <| And.intro @ok_r <| And.intro @ok_a <| And.intro @one_i <| And.intro @one_b <| And.intro @one_s <| And.intro @one_l <| And.intro @one_r <|
 And.intro @resV_ret <| And.intro @resV_fin <| And.intro @rr_nil <| And.intro @rr_t <| And.intro @rr_c <| And.intro @frz_int <| And.intro @frz_bool <| And.intro @frz_str <| And.intro @fz_agg <| And.intro @fz_tup <| And.intro @fz_ref <| And.intro @fzs_n <| And.intro @fzs_c <| And.intro @frzs_pure <| And.intro @frz_lst <| And.intro @frz_e <| And.intro @finV_ret <| And.intro @finV_fin <|  @eqv_refl):=And.intro @gt_c <| And.intro @gt_n <| And.intro @ev_t <| And.intro @ev_c <| And.intro @put_s <| And.intro @put_n <| And.intro @keep_n <| And.intro @keep_c <| And.intro @hg_eq <| And.intro @hg_ne <| And.intro @hs_eq <| And.intro @hss_eq <| And.intro @hs_ne <| And.intro @evs_n <| And.intro @evs_c <| And.intro @evps_n <| And.intro @evps_c <| And.intro @evpe_n <| And.intro @evpe_c <| And.intro @optV_n <| And.intro @optV_s <| And.intro @par_n <| And.intro @par_c <| And.intro @res_1 <| And.intro @res_2 <| And.intro @if_tt <| And.intro @if_ft <|
 And.intro @cut_d <| And.intro @spl_d <| And.intro @cells_a <| And.intro @cells_i <| And.intro @cells_b <| And.intro @cells_s <| And.intro @cells_l <| And.intro @cells_r <| And.intro @ok_i <| And.intro @ok_b <| And.intro @ok_s <| And.intro @ok_l <| And.intro @ok_r <| And.intro @ok_a <| And.intro @one_i <| And.intro @one_b <| And.intro @one_s <| And.intro @one_l <| And.intro @one_r <|
 And.intro @resV_ret <| And.intro @resV_fin <| And.intro @rr_nil <| And.intro @rr_t <| And.intro @rr_c <| And.intro @frz_int <| And.intro @frz_bool <| And.intro @frz_str <| And.intro @fz_agg <| And.intro @fz_tup <| And.intro @fz_ref <| And.intro @fzs_n <| And.intro @fzs_c <| And.intro @frzs_pure <| And.intro @frz_lst <| And.intro @frz_e <| And.intro @finV_ret <| And.intro @finV_fin <|  @eqv_refl
end
end Go.FI
