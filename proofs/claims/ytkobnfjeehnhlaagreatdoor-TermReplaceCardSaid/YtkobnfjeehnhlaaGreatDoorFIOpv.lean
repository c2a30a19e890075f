/- The operations that make nothing and write nothing. -/
import Derived.Test.YtkobnfjeehnhlaaGreatDoorFIRel
import Derived.WalkKit
set_option linter.all false
namespace Go.FI
open Go.RowKit
variable [Sys]
def okV1:Value→FV→Bool
 |.bool a,.bool b=>a == b
 |.int k a,.int j b=>decide (k=j) && decide (a=b)
 |.string s,.str l=>s.data.toList == l
 |.slice none 0 0,.lst _ []=>true
 |.pointer none,.nilp=>true
 |.map none,.nilm=>true
 |.nilFunc,.nilf=>true
 |.nilIface,.nili=>true
 |_,_=>false
def okVs:List Value→List FV→Bool
 |[],[]=>true
 |v::vs,c::cs=>okV1 v c && okVs vs cs
 |_,_=>false
def okV (v:Value) (f:FV):Bool :=
 match v,f with
 |.agg vs,.agg cs=>okVs vs.toList cs
 |v,f=>okV1 v f
def okX:Operand→X→Bool
 |.tmp t,.t n=>t == n
 |.const v,.c f=>okV v f
 |.func f,.c (.fn g [])=>f == g && decide (f < RB)
 |.global k,.c (.eptr cs 0)=>Sys.gl k cs
 |_,_=>false
def okXs:List Operand→List X→Bool
 |[],[]=>true
 |x::xs,y::ys=>okX x y && okXs xs ys
 |_,_=>false
section
variable {g:Gh} {w:World} {P:Program}
theorem R_okV1 {v:Value} {f:FV} (h:okV1 v f=true):R g w f v:=by
 unfold okV1 at h
 split at h<;>simp at h
 ·subst h;exact .bool _
 ·obtain ⟨rfl,rfl⟩:=h;exact .int _ _
 ·rename_i s l;subst h;exact .str s
 ·exact .lst0 _ _ _ (fun _=>rfl)
 ·exact .nilp
 ·exact .nilm
 ·exact .nilf
 ·exact .nili
theorem RL_okVs {vs:List Value} {cs:List FV} (h:okVs vs cs=true):RL g w cs vs:=by
 induction vs generalizing cs with
 |nil=>cases cs<;>simp [okVs] at h;exact .nil
 |cons v vs ih =>
  cases cs with
  |nil=>simp [okVs] at h
  |cons c cs =>
   simp [okVs] at h
   exact .cons _ _ _ _ (R_okV1 h.1) (ih h.2)
theorem R_okV {v:Value} {f:FV} (h:okV v f=true):R g w f v:=by
 unfold okV at h
 split at h
 ·rename_i vs cs;exact .agg cs vs.toList (RL_okVs h)
 ·exact R_okV1 h
def GlOk (g:Gh) (w:World):Prop:=∀ k cs,Sys.gl k cs=true→R g w (.eptr cs 0) (.pointer (some ⟨k,0,none⟩))
structure RT (g:Gh) (w:World) (m:Tm) (a:Act):Prop where
 rt:∀ t,R g w (gt m t) (a.tmps.getD t undef)
 gl:GlOk g w
instance {g:Gh} {w:World} {m:Tm} {a:Act}:CoeFun (RT g w m a) (fun _=>∀ t,R g w (gt m t) (a.tmps.getD t undef)):=⟨RT.rt⟩
theorem R_okX {m:Tm} {a:Act} (hm:RT g w m a) {x:Operand} {y:X} (h:okX x y=true):R g w (ev m y) (a.eval x):=by
 unfold okX at h
 split at h
 ·simp at h;subst h;exact hm _
 ·exact R_okV h
 ·simp at h;obtain ⟨rfl,h⟩:=h;exact .fn _ [] [] h .nil
 ·exact hm.gl _ _ h
 ·simp at h
theorem RL_okXs {m:Tm} {a:Act} (hm:RT g w m a) {xs:List Operand} {ys:List X} (h:okXs xs ys=true):RL g w (evs m ys) (xs.map a.eval):=by
 induction xs generalizing ys with
 |nil=>cases ys<;>simp [okXs] at h;exact .nil
 |cons v vs ih =>
  cases ys with
  |nil=>simp [okXs] at h
  |cons c cs =>
   simp [okXs] at h
   exact .cons _ _ _ _ (R_okX hm h.1) (ih h.2)
def isAggB (P:Program) (t:TypeId):Bool :=
 match P.underlying t with
 |some (.struct _) | some (.array _ _)=>true
 |_=>false
def sizeIs (P:Program) (t:TypeId) (n:Nat):Bool:=(P.info? t).map (·.size) == some n
def okAg (P:Program) (t:TypeId) (ag:Option Nat):Bool :=
 match ag with
 |none=>!isAggB P t && (P.underlying t).isSome
 |some n=>isAggB P t && sizeIs P t n
def posSize (P:Program) (t:TypeId):Bool :=
 match P.info? t with
 |some i=>i.size != 0
 |none=>false
def structOff (P:Program) (t:TypeId) (f off:Nat):Bool :=
 match P.underlying t with
 |some (.struct fs)=>match fs[f]? with
  |some fd=>fd.offset == off && posSize P fd.type
  |none=>false
 |_=>false
def isDesc (P:Program) (t:TypeId) (p:TypeDesc→Bool):Bool :=
 match P.underlying t with
 |some d=>p d
 |none=>false
def isStr:TypeDesc→Bool | .string=>true | _=>false
def isBool:TypeDesc→Bool | .bool=>true | _=>false
def isMap:TypeDesc→Bool | .map _ _=>true | _=>false
def isSl (P:Program) (es:Nat):TypeDesc→Bool | .slice e=>sizeIs P e es && decide (0 < es) | _=>false
def isSlice:TypeDesc→Bool | .slice _=>true | _=>false
def isArr (P:Program) (n es:Nat):TypeDesc→Bool | .array n' e=>n' == n && sizeIs P e es | _=>false
def isInt (k:IntKind):TypeDesc→Bool | .int j=>decide (j=k) | _=>false
def isIface:TypeDesc→Bool | .interface _=>true | _=>false
def okOpt:Option Operand→Option X→Bool
 |none,none=>true
 |some x,some y=>okX x y
 |_,_=>false
def zeroIs (P:Program) (t:TypeId) (z:List FV):Bool :=
 match P.info? t with
 |some i=>match i.zero with
  |some v=>okVs v.cells.toList z
  |none=>false
 |none=>false
def okPart (P:Program) (d:TypeDesc) (i off sz:Nat):Bool :=
 match d with
 |.struct fs=>match fs[i]? with
  |some f=>f.offset == off && sizeIs P f.type sz
  |none=>false
 |.array _ e=>i * sz == off && sizeIs P e sz
 |_=>false
def okParts (P:Program) (d:TypeDesc):List (Nat × Operand)→List (Nat × Nat × X)→Bool
 |[],[]=>true
 |(i,x)::ps,(off,sz,y)::qs=>okX x y && okPart P d i off sz && okParts P d ps qs
 |_,_=>false
def fieldsKnown (P:Program):TypeDesc→Bool
 |.struct fs=>fs.toList.all fun f=>(P.info? f.type).isSome
 |.array _ e=>(P.info? e).isSome
 |_=>false
def isKd:Nat→TypeDesc→Bool
 |0,.int _=>true
 |1,.string=>true
 |2,.bool=>true
 |_,_=>false
def okEqF (P:Program):Nat→List Field→List Nat→Bool
 |_,[],[]=>true
 |i, f :: fs, k :: ks => f.name != "_" && f.offset == i && isDesc P f.type (isKd k) && okEqF P (i + 1) fs ks
 |_,_,_=>false
def okOp (P:Program) (op:Op):O→Bool
 |.mv y=>match op with
  |.move x | .assign x=>okX x y
  |_=>false
 |.pk c a b=>match op with
  |.pick c' a' b'=>okX c' c && okX a' a && okX b' b
  |_=>false
 |.bo p a b=>match op with
  |.binOp p' _ x y _=>decide (p'=p) && okX x a && okX y b
  |_=>false
 |.be neg a b=>match op with
  |.binOp p t x y _=>decide (p=if neg=true then .neq else .eql) && okX x a && okX y b && isDesc P t isBool
  |_=>false
 |.eq neg ks a b=>match op with
  |.binOp p t x y _=>decide (p=if neg=true then .neq else .eql) && okX x a && okX y b && !P.eqGuardType P.depth t && !P.stoodInHeld t && (match P.underlying t with | some (.struct fs)=>okEqF P 0 fs.toList ks | _=>false)
  |_=>false
 |.un p a=>match op with
  |.unOp p' _ x=>decide (p'=p) && okX x a
  |_=>false
 |.ix x i=>match op with
  |.index t x' i'=>okX x' x && okX i' i && isDesc P t isStr
  |_=>false
 |.ln k x=>match op with
  |.call ⟨.builtin .len,args,ts⟩=>match args.toList,ts.toList with
   |[x'],[t]=>okX x' x && isDesc P t (match k with | 0=>isStr | 1=>isSlice | _=>isMap)
   |_,_=>false
  |_=>false
 |.mx a b=>match op with
  |.call ⟨.builtin .max,args,_⟩=>okXs args.toList [a,b]
  |_=>false
 |.mn a b=>match op with
  |.call ⟨.builtin .min,args,_⟩=>okXs args.toList [a,b]
  |_=>false
 |.cv k x=>match op with
  |.convert s d x'=>okX x' x && (P.underlying s).isSome && isDesc P d (isInt k)
  |_=>false
 |.ld ag x=>match op with
  |.load t x'=>okX x' x && okAg P t ag
  |_=>false
 |.fa off x=>match op with
  |.fieldAddr t x' f=>okX x' x && structOff P t f off
  |_=>false
 |.fd ag off x=>match op with
  |.field t x' f=>okX x' x && (match P.underlying t with
    |some (.struct fs)=>match fs[f]? with
     |some fd=>fd.offset == off && okAg P fd.type ag
     |none=>false
    |_=>false)
  |_=>false
 |.ia es x i=>match op with
  |.indexAddr t x' i'=>okX x' x && okX i' i && isDesc P t (isSl P es)
  |_=>false
 |.aa n es x i=>match op with
  |.indexAddr t x' i'=>okX x' x && okX i' i && isDesc P t (isArr P n es)
  |_=>false
 |.nc x=>match op with
  |.nilCheck x'=>okX x' x
  |_=>false
 |.ex x i=>match op with
  |.extract x' i'=>okX x' x && i' == i
  |_=>false
 |.sl es x lo hi=>match op with
  |.slice t x' lo' hi' none=>okX x' x && okOpt lo' lo && okOpt hi' hi && isDesc P t (if es=0 then isStr else isSl P es)
  |_=>false
 |.bd z ps=>match op with
  |.build t qs=>zeroIs P t z && isDesc P t (fun d=>fieldsKnown P d && okParts P d qs.toList ps)
  |_=>false
 |.mf f caps=>match op with
  |.makeFunc (.func f') first caps'=>f' == f && decide (f < RB) && first.isEmpty && okXs caps'.toList caps
  |_=>false
 |.mi t x=>match op with
  |.makeInterface t' x'=>t' == t && okX x' x && isDesc P t (fun d=>!isIface d)
  |_=>false
 |.ta t z x=>match op with
  |.typeAssert x' _ t' true=>t' == t && okX x' x && (match P.underlying t with | some (.interface _)=>false | some _=>true | none=>false) && (match P.info? t with
    |some i=>match i.zero with
     |some v=>okV v z
     |none=>false
    |none=>false)
  |_=>false
 |.sn neg x=>match op with
  |.binOp p t x' y _=>decide (p=if neg=true then .neq else .eql) && (okX x' x && (match y with | .const (.slice none 0 0)=>true | _=>false) || okX y x && (match x' with | .const (.slice none 0 0)=>true | _=>false)) && isDesc P t isSlice
  |_=>false
 |.ib x y=>match op with
  |.call ⟨.value (.func f),args,_⟩=>okXs args.toList [x,y] && (match P.funcs[f]? with
    |some fn => fn.name == "internal/bytealg.IndexByteString" && fn.origin == "" && fn.body.isNone
    |none=>false)
  |_=>false
 |.bad=>match op with
  |.defer _=>false
  |_=>true
 |.isn neg x=>match op with
  |.binOp p t x' y _=>decide (p=if neg=true then .neq else .eql) && (okX x' x && (match y with | .const .nilIface=>true | _=>false) || okX y x && (match x' with | .const .nilIface=>true | _=>false)) && isDesc P t (fun d=>match d with | .interface _=>true | _=>false)
  |_=>false
 |.xa n es ag x i=>match op with
  |.index t x' i'=>okX x' x && okX i' i && (match P.underlying t with | some (.array n' e)=>n' == n && sizeIs P e es && okAg P e ag | _=>false)
  |_=>false
 |.cs x=>match op with
  |.convert s d x'=>okX x' x && isDesc P s (fun t=>match t with | .slice e=>isDesc P e (isInt .u8) | _=>false) && isDesc P d isStr
  |_=>false
 |.sx x y=>match op with
  |.call ⟨.value (.func f),args,_⟩=>okXs args.toList [x,y] && (match P.funcs[f]? with
    |some fn => fn.name == "internal/bytealg.abigen_runtime_cmpstring" && fn.origin == "" && fn.body.isNone
    |none=>false)
  |_=>false
 |_=>false
theorem run_isAgg (t:TypeId) (w:World) (h:(P.underlying t).isSome=true):(isAgg t).run P w=.ok (isAggB P t) w:=by
 cases hu:P.underlying t with
 |none=>simp [hu] at h
 |some d=>simp [isAgg,underlying,isAggB,hu];cases d<;>rfl
theorem run_sizeOf {t:TypeId} {n:Nat} (w:World) (h:sizeIs P t n=true):(sizeOf t).run P w=.ok n w:=by
 cases hi:P.info? t with
 |none=>simp [sizeIs,hi] at h
 |some i=>simp [sizeIs,hi] at h;simp [sizeOf,typeInfo,hi,h]
theorem wrap_of_pick {b:Bool} {x y:FV} {vx vy:Value} (hx:R g w x vx) (hy:R g w y vy):R g w (if b=true then x else y) (if b=true then vx else vy):=by
 cases b<;>simpa
theorem toList_eq (a:ByteArray):a.toList=a.data.toList:=ByteArray.toList_eq a
theorem binop_sound {op:BinOp} {x y v:FV} {vx vy:Value} {t:TypeId} (hx:R g w x vx) (hy:R g w y vy) (h:binop op x y=some v) :
  ∃ z,(binOp op t vx vy).run P w=.ok z w∧R g w v z:=by
 unfold binop at h
 split at h
 ·rename_i k a j b
  cases hx;cases hy
  split at h
  ·unfold chk at h;split at h<;>simp at h
   rename_i hb;subst h
   refine ⟨_,?_,.int _ _⟩
   simp [binOp,Op.shift,shl,Int.not_lt.2 hb]
  ·unfold chk at h;split at h<;>simp at h
   rename_i hb;subst h
   refine ⟨_,?_,.int _ _⟩
   simp [binOp,Op.shift,shr,Int.not_lt.2 hb]
  ·unfold chk at h;split at h<;>try (simp at h;done)
   rename_i hkj;subst hkj
   cases op<;>simp [intBin,chk] at h
   case quo =>
    obtain ⟨hb,rfl⟩:=h
    exact ⟨_,by simp [binOp,Op.intDiv,hb],.int _ _⟩
   case rem =>
    obtain ⟨hb,rfl⟩:=h
    exact ⟨_,by simp [binOp,Op.intDiv,hb],.int _ _⟩
   all_goals
    subst h
    first
     |(refine ⟨_,?_,R.int _ _⟩;simp [binOp,Op.intArith,Op.intBits,Op.intCmp,band,bor,bxor,bandnot])
     |(refine ⟨_,?_,R.bool _⟩;simp [binOp,Op.intArith,Op.intBits,Op.intCmp])
 ·rename_i a b
  cases hx with | str sa =>
  cases hy with | str sb =>
  cases op<;>simp only [strBin,chk,reduceCtorEq,Option.some.injEq] at h
  case add =>
   split at h<;>simp at h
   rename_i hl;subst h
   refine ⟨.string (sa ++ sb),?_,?_⟩
   ·have:((sa.size + sb.size:Nat):Int) ≤ IntKind.i64.max:=by
     have e1:sa.data.toList.length=sa.size:=rfl
     have e2:sb.data.toList.length=sb.size:=rfl
     have e3:IntKind.i64.max=9223372036854775807:=by decide
     rw [e3];omega
    simp only [binOp,Op.stringOp]
    rw [if_neg (Int.not_lt.2 this)]
    rfl
   ·have:(sa ++ sb).data.toList=sa.data.toList ++ sb.data.toList:=by simp [ByteArray.data_append]
    rw [← this]
    exact .str _
  all_goals
   subst h
   refine ⟨_,?_,R.bool _⟩
   simp only [binOp,Op.stringOp,toList_eq,Sem.run_pure]
 ·simp at h
theorem desc_of {t:TypeId} {p:TypeDesc→Bool} (h:isDesc P t p=true):∃ d,P.underlying t=some d∧p d=true:=by
 unfold isDesc at h
 split at h
 ·exact ⟨_,by assumption,h⟩
 ·simp at h
theorem add_addr (b o n:Nat):(⟨b,o,none⟩:Addr).add n=⟨b,o + n,none⟩:=by
 unfold Addr.add;split<;>simp_all
theorem load_cells {t:TypeId} {ag:Option Nat} {b o off:Nat} {fs:List FV} {cs:List Value} {v:FV} (hr:RL g w fs cs) (hc:∀ (j:Nat) v,cs[j]? = some v→w.cell? ⟨b,o + j,none⟩=some v)
  (hok:okAg P t ag=true) (h:cellsAt fs ag off=some v):∃ x,(loadVar t ⟨b,o + off,none⟩).run P w=.ok x w∧R g w v x:=by
 cases ag with
 |none =>
  simp only [okAg,Bool.and_eq_true,Bool.not_eq_true'] at hok
  obtain ⟨x,hx,hR⟩:=hr.get off v h
  refine ⟨x,?_,hR⟩
  simp [loadVar,run_isAgg t w hok.2,hok.1,hc off x hx]
 |some n =>
  simp only [okAg,Bool.and_eq_true] at hok
  simp only [cellsAt,chk] at h
  split at h<;>simp at h
  rename_i hle
  subst h
  have hu:(P.underlying t).isSome=true:=by
   have:=hok.1;unfold isAggB at this;split at this<;>simp_all
  have hR:=hr.cut off (off + n)
  have hlen:(cut cs off (off + n)).length=n:=by rw [cut_length _ _ _ (by rw [← hr.length];exact hle)];omega
  refine ⟨.agg (cut cs off (off + n)).toArray,?_,.agg _ _ hR⟩
  have hl:=run_loadCells_list (P:=P) (w:=w) ⟨b,o + off,none⟩ (cut cs off (off + n)) (fun j v hj=>by
   rw [add_addr]
   have:=hc _ v (cut_get _ _ _ _ _ hj)
   rw [Nat.add_assoc];exact this)
  rw [hlen] at hl
  simp [loadVar,run_isAgg t w hu,hok.1,run_sizeOf w hok.2,hl]
theorem loadv_sound {B:Nat} {w0:World} {h:Heap} (hI:Inv B w0 g h w) {t:TypeId} {ag:Option Nat} {p v:FV} {x:Value} (hp:R g w p x) (hok:okAg P t ag=true) (hv:loadv h ag p=some v) :
  ∃ a z,x=.pointer (some a)∧(loadVar t a).run P w=.ok z w∧R g w v z:=by
 unfold loadv at hv
 split at hv
 ·rename_i id stamp i off
  cases hp with
  |ptr _ _ _ _ l a hk hs hh =>
  split at hv
  iterate 2
   ·rename_i es xs hg
    simp only [chk] at hv
    split at hv
    ·rename_i hst
     obtain ⟨l',hk',hrow⟩:=hI.obj' hk hg
     rw [hk] at hk';cases hk'
     have hrow:RowOk g w l es xs:=by first | exact hrow | exact hrow.1
     obtain ⟨b,hb,rfl⟩:=hh (by rw [hrow.hsize];exact hst.symm)
     obtain ⟨arr,tt,h1,h2,h3,cs,h4,h5⟩:=hrow.hsome b hb
     cases hxi:xs[i]? with
     |none=>simp [bnd,hxi] at hv
     |some e =>
      simp [bnd,hxi] at hv
      have hcut:=h4.cut (i * es) (i * es + es)
      rw [flat_cut (fun y hy=>(hrow.elems y hy).1) hxi] at hcut
      obtain ⟨z,hz,hR⟩:=load_cells (P:=P) (b:=b) (o:=i * es) (off:=off) hcut (fun j v hj=>by
       have:=h5 _ _ (cut_get _ _ _ _ _ hj)
       simp [World.cell?,h1,this]) hok hv
      exact ⟨_,z,rfl,by rw [hrow.hes];exact hz,hR⟩
    ·simp at hv
  ·simp at hv
 ·rename_i cs off
  cases hp with
  |eptr _ _ b o vs hne hZ hr hc =>
  obtain ⟨z,hz,hR⟩:=load_cells (P:=P) hr hc hok hv
  exact ⟨_,z,rfl,hz,hR⟩
 ·simp at hv
end
end Go.FI
