/- Bindings: lists,and what a name is bound to. -/
import Derived.Test.YtkobnfjeehnhlaaGreatDoorFIVars
import Derived.Test.YtkobnfjeehnhlaaGreatDoorFIView
set_option linter.all false
namespace Go.FI
abbrev Env:=List (List UInt8 × Int × Int)
def bdV (p:List UInt8 × Int × Int):FV:=.agg [.str p.1,.int .i64 p.2.1,.int .u64 p.2.2]
theorem pu_e (l:Env):pures (l.map bdV)=true:=pures_map (fun _=>rfl) _
theorem lo_e (b:Nat) (l:Env):lows b (l.map bdV)=true:=lows_map (fun _=>rfl) _
theorem al_e (l:Env):(l.map bdV).all FV.ok=true:=all_map (fun _=>rfl) _
theorem cl_e (l:Env):((l.map bdV).all fun v=>v.cells.length == 3)=true:=all_map (fun _=>rfl) _
theorem gd_e {l:Env} {i:Nat} {d:FV} (h:i < l.length):(l.map bdV).getD i d=.agg [.str (l.getD i ([],0,0)).1,.int .i64 (l.getD i ([],0,0)).2.1,.int .u64 (l.getD i ([],0,0)).2.2]:=getD_map _ h
theorem ge_e {l:Env} {i:Nat} (h:i < l.length):(l.map bdV)[i]? = some (.agg [.str (l.getD i ([],0,0)).1,.int .i64 (l.getD i ([],0,0)).2.1,.int .u64 (l.getD i ([],0,0)).2.2]):=by simp [List.getD,h,bdV]
theorem EnL:type_of% (And.intro pu_e <| And.intro lo_e <| And.intro al_e <| And.intro cl_e <| And.intro @gd_e @ge_e):=And.intro pu_e <| And.intro lo_e <| And.intro al_e <| And.intro cl_e <| And.intro @gd_e @ge_e
abbrev nm (env:Env) (k:Nat):List UInt8:=(env.getD k ([],0,0)).1
def boundS (env:Env) (s:List UInt8):Option (List UInt8 × Int × Int):=env.find? fun p=>p.1 == s
theorem find_at (env:Env) (s:List UInt8) (i:Nat) (hi:i < env.length) (lo:∀ k,k < i→¬ nm env k=s):nm env i=s→boundS env s=some (env.getD i ([],0,0)):=by
 induction env generalizing i with
 |nil=>simp at hi
 |cons p env ih =>
  intro h
  unfold boundS
  cases i with
  |zero=>simp [nm] at h;simp [h]
  |succ i =>
   have h0:¬ p.1=s:=by simpa [nm] using lo 0 (by omega)
   simp only [List.find?_cons]
   rw [show (p.1 == s)=false by simpa using h0]
   have:=ih i (by simpa using hi) (fun k hk=>by simpa [nm] using lo (k + 1) (by omega)) (by simpa [nm] using h)
   simpa [boundS] using this
theorem find_no (env:Env) (s:List UInt8) (h:∀ k,k < env.length→¬ nm env k=s):boundS env s=none:=by
 unfold boundS
 rw [List.find?_eq_none]
 intro p hp
 obtain ⟨k,hk⟩:=List.getElem?_of_mem hp
 have hk':k < env.length:=(List.getElem?_eq_some_iff.1 hk).1
 have:=h k hk'
 simp [nm,List.getD,hk] at this
 simpa using this
theorem cb_eq:∀ a b:List UInt8,Go.Lib.compareBytes a b=0 ↔ a=b:=by
 intro a
 induction a with
 |nil=>intro b;cases b<;>simp [Go.Lib.compareBytes]
 |cons x a ih =>
  intro b
  cases b with
  |nil=>simp [Go.Lib.compareBytes]
  |cons y b =>
   simp only [Go.Lib.compareBytes]
   by_cases h1:x < y
   ·simp [h1]
    intro h;subst h;exact absurd h1 (UInt8.lt_irrefl _)
   ·by_cases h2:y < x
    ·simp [h1,h2]
     intro h;subst h;exact absurd h2 (UInt8.lt_irrefl _)
    ·have h3:y=x:=UInt8.le_antisymm (UInt8.not_lt.1 h1) (UInt8.not_lt.1 h2)
     subst h3
     simp [ih b]
theorem env_view [Sys] {P:Program} {n:Nat} {t:TypeId} {cs:List FV} {e str i64 u64:Nat} (h:OfT P n t cs) (he:sliceOf P t=some e) (ha:isAgg P e=true) (hl:P.cellsOf e=3) (h0:fldAt P e 0=some (str,0,1)) (h1:fldAt P e 1=some (i64,1,1)) (h2:fldAt P e 2=some (u64,2,1)) (k0:strT P str=true) (k1:kindOf P i64=some .i64) (k2:kindOf P u64=some .u64) :
  ∃ l:Env,cs=[.lst false (l.map bdV)]∧l.length ≤ maxLen∧∀ p ∈ l,(0 ≤ p.2.2∧p.2.2 ≤ 18446744073709551615)∧p.1.length ≤ maxLen∧-9223372036854775808 ≤ p.2.1∧p.2.1 ≤ 9223372036854775807:=by
 obtain ⟨m,css,rfl,g2,g3⟩:=h.slice he
 obtain ⟨l,h4,h5,h6⟩:=list_view (css:=css) (mk:=mkE P e) (enc:=bdV) (good:=fun p=>(0 ≤ p.2.2∧p.2.2 ≤ 18446744073709551615)∧p.1.length ≤ maxLen∧-9223372036854775808 ≤ p.2.1∧p.2.1 ≤ 9223372036854775807) fun c hc=>by
  have hc':=g3 c hc
  have hlen:=hc'.len hl
  obtain ⟨_,f0⟩:=hc'.field 0 h0
  obtain ⟨_,f1⟩:=hc'.field 1 h1
  obtain ⟨_,f2⟩:=hc'.field 2 h2
  match c,hlen with
  |[x,y,z],_ =>
   obtain ⟨s,e1,s1⟩:=f0.str k0
   obtain ⟨w,e2,w1,w2⟩:=f1.int k1
   obtain ⟨b,e3,b1,b2⟩:=f2.int k2
   simp at e1 e2 e3
   refine ⟨(s,w,b),by rw [mkE_agg ha,e1,e2,e3];rfl,?_⟩
   simp [IntKind.min,IntKind.max,IntKind.signed,IntKind.bits] at b1 b2 w1 w2
   exact ⟨⟨b1,by show b ≤ _;omega⟩,s1,w1,by show w ≤ _;omega⟩
 exact ⟨l,by rw [h4],by omega,h6⟩
end Go.FI
