/- The program's variables that nobody writes. -/
import Derived.Test.YtkobnfjeehnhlaaGreatDoorFICal2
import Derived.KernelRfl
import Derived.Lib.Join
set_option linter.all false
namespace Go.FI
inductive Dt where
 |s (b:List UInt8)
 |i (k:IntKind) (n:Int)
 |b (b:Bool)
 |agg (l:List Dt)
 |slice (l:List Dt) (m:List Dt)
mutual
def dataCells:Dt→List FV
 |.s b=>[.str b]
 |.i k n=>[.int k n]
 |.b b=>[.bool b]
 |.agg l=>datasCells l
 |.slice l _=>[.lst false (dataElems l)]
def datasCells:List Dt→List FV
 |[]=>[]
 |d::r=>dataCells d ++ datasCells r
def dataElems:List Dt→List FV
 |[]=>[]
 |.agg l::r=>.agg (datasCells l)::dataElems r
 |d::r=>(dataCells d).headD .undef::dataElems r
end
theorem okC_gl (gl:Nat→List FV→Bool) (r1 r2:Nat→Loop→List Nat→Prop) (p:∀ k cs,gl k cs=true→pures cs=true):@okC ⟨gl,r1,p⟩=@okC ⟨gl,r2,p⟩:=by kernel_rfl
theorem RkOf_gl {s t:Sys} (h:s.gl=t.gl) {P:Program} {cm:Nat→Nat} {rdO:Nat→Option Rd} {f:Nat} {r:Loop} {ct:List Nat}:@RkOf s P cm rdO f r ct ↔ @RkOf t P cm rdO f r ct:=by
 obtain ⟨g1,r1,p1⟩:=s
 obtain ⟨g2,r2,p2⟩:=t
 simp only at h
 subst h
 unfold RkOf
 rw [okC_gl g1 r1 r2 p1]
end Go.FI
