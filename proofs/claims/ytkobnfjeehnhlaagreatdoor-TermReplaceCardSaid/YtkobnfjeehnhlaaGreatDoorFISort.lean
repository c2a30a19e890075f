/- Sorting: rows of bindings,and what the library's sort does to them. -/
import Derived.Test.YtkobnfjeehnhlaaGreatDoorFIY
import Derived.Test.YtkobnfjeehnhlaaGreatDoorFIVis
import Derived.Sort.LotA
import Derived.Sort.LotB
import Derived.Sort.LotC
import Derived.Sort.LotD3
set_option linter.all false
namespace Go.FI
open Go.Sort
abbrev Bd:=List UInt8 × Int
def bS (p:Bd):FV:=.agg [.str p.1,.int .i64 p.2,.int .u64 0]
def rowB (d:Array Bd):Obj:=.row 3 (d.toList.map bS)
def ltB (p q:Bd):Bool:=decide (Go.Lib.compareBytes p.1 q.1 < 0)
theorem ltB_eq {p q:Bd}:decide (Go.Lib.compareBytes p.1 q.1 < 0)=ltB p q:=rfl
theorem rb_get {d:Array Bd} {i:Nat} (h:i < d.size):(d.toList.map bS)[i]? = some (.agg [.str d[i]!.1,.int .i64 d[i]!.2,.int .u64 0]):=by
 simp [List.getElem?_map,h,bS]
theorem rb_len {d:Array Bd}:(d.toList.map bS).length=d.size:=by simp
theorem rb_set {d:Array Bd} {i:Nat} {x:Bd}:(d.toList.map bS).set i (.agg [.str x.1,.int .i64 x.2,.int .u64 0])=(d.setIfInBounds i x).toList.map bS:=by
 rw [Array.toList_setIfInBounds,List.map_set];rfl
theorem rb_swp {d:Array Bd} {i j:Nat}:(d.setIfInBounds i d[j]!).setIfInBounds j d[i]! = swp d i j:=rfl
theorem sz_set {d:Array Bd} {i:Nat} {x:Bd}:(d.setIfInBounds i x).size=d.size:=Array.size_setIfInBounds
theorem sz_swp {d:Array Bd} {i j:Nat}:(swp d i j).size=d.size:=by simp [swp]
theorem rb_get2 {d:Array Bd} {i k:Nat} {x:Bd} (h:i < d.size):((d.setIfInBounds k x).toList.map bS)[i]? = some (.agg [.str (d.setIfInBounds k x)[i]!.1,.int .i64 (d.setIfInBounds k x)[i]!.2,.int .u64 0]):=rb_get (by rw [sz_set];exact h)
theorem row_of {d:Array Bd}:rowB d=.row 3 (d.toList.map bS):=rfl
theorem SR:type_of% (And.intro @rb_get <| And.intro @rb_get2 <| And.intro @rb_len <| And.intro @rb_set <| And.intro @rb_swp <| And.intro @sz_set <| And.intro @sz_swp <| And.intro @Array.length_toList.{0} <| And.intro @hgx_e <| @Option.map_some.{0,0}):=And.intro @rb_get <| And.intro @rb_get2 <| And.intro @rb_len <| And.intro @rb_set <| And.intro @rb_swp <| And.intro @sz_set <| And.intro @sz_swp <| And.intro @Array.length_toList.{0} <| And.intro @hgx_e <| @Option.map_some.{0,0}
def RowR (h:Heap) (id:Nat) (d:Array Bd) (h':Heap):Prop:=hget h' id=some (rowB d)∧∀ i,i ≠ id→hget h' i=hget h i
theorem RowR.refl {h:Heap} {id:Nat} {d:Array Bd} (hr:hget h id=some (rowB d)):RowR h id d h:=⟨hr,fun _ _=>rfl⟩
theorem RowR.trans {h h1 h2:Heap} {id:Nat} {d d':Array Bd} (h1':RowR h id d h1) (h2':RowR h1 id d' h2):RowR h id d' h2:=⟨h2'.1,fun i hi=>(h2'.2 i hi).trans (h1'.2 i hi)⟩
theorem RowR.one {h:Heap} {id:Nat} {d:Array Bd} {o:Obj} (hr:hget h id=some o):RowR h id d (hset h id (rowB d)):=⟨hgs_eq hr,fun i hi=>hgs_ne (Ne.symm hi)⟩
theorem na (a b:Nat):((a:Nat):Int) + ((b:Nat):Int)=((a + b:Nat):Int):=rfl
theorem na1 (a:Nat):((a:Nat):Int) + 1=((a + 1:Nat):Int):=rfl
theorem nm2 (a:Nat):2 * ((a:Nat):Int)=((2 * a:Nat):Int):=rfl
theorem nle (a b:Nat):decide (((a:Nat):Int) ≤ ((b:Nat):Int))=decide (a ≤ b):=by simp
theorem nlt (a b:Nat):decide (((a:Nat):Int) < ((b:Nat):Int))=decide (a < b):=by simp
theorem NA:type_of% (And.intro na <| And.intro na1 <| And.intro nm2 <| And.intro nle <| nlt):=And.intro na <| And.intro na1 <| And.intro nm2 <| And.intro nle <| nlt
def RowN (id:Nat) (d:Array Bd) (h:Heap) (nx:Nat) (h':Heap) (nx':Nat):Prop:=hget h' id=some (rowB d)∧nx ≤ nx'∧∀ i,i < nx→i ≠ id→hget h' i=hget h i
theorem RowR.n {h h':Heap} {id nx nx':Nat} {d:Array Bd} (hr:RowR h id d h') (hn:nx ≤ nx'):RowN id d h nx h' nx':=⟨hr.1,hn,fun i _ hi=>hr.2 i hi⟩
theorem insInner_size {lt:Bd→Bd→Bool} {a:Nat}:∀ {j:Nat} {d:Array Bd},(Go.Sort.insInner lt a j d).size=d.size:=by
 intro j
 induction j with
 |zero=>intro d;rfl
 |succ j ih=>intro d;rw [Go.Sort.insInner];split<;>simp [ih,sz_swp]
section
variable {lt:Bd→Bd→Bool} {hi F root:Nat} {d:Array Bd}
theorem sd_end (h:hi ≤ 2 * root + 1):Go.Sort.siftDown lt hi F root d=d:=by rw [Go.Sort.siftDown,dif_pos h]
theorem sd_step (h:¬ hi ≤ 2 * root + 1) (c:Nat) (hc:c=if 2 * root + 1 + 1 < hi∧lt d[F + (2 * root + 1)]! d[F + (2 * root + 1) + 1]! = true then 2 * root + 1 + 1 else 2 * root + 1) :
  Go.Sort.siftDown lt hi F root d=if lt d[F + root]! d[F + c]! = true then Go.Sort.siftDown lt hi F c (Go.Sort.swp d (F + root) (F + c)) else d:=by
 rw [Go.Sort.siftDown,dif_neg (by omega)]
 by_cases h1:2 * root + 1 + 1 < hi∧lt d[F + (2 * root + 1)]! d[F + (2 * root + 1) + 1]! = true
 ·rw [if_pos h1] at hc
  subst hc
  rw [if_pos (by simp only [Bool.and_eq_true,decide_eq_true_eq];exact h1),show 2 * root + 2=2 * root + 1 + 1 from rfl,dif_pos h1.1]
  cases lt d[F + root]! d[F + (2 * root + 1 + 1)]! <;> rfl
 ·rw [if_neg h1] at hc
  subst hc
  rw [if_neg (by simp only [Bool.and_eq_true,decide_eq_true_eq];exact h1)]
  cases lt d[F + root]! d[F + (2 * root + 1)]! <;> rfl
theorem siftDown_size:∀ (k root:Nat) (d:Array Bd),hi - root ≤ k→(Go.Sort.siftDown lt hi F root d).size=d.size:=by
 intro k
 induction k with
 |zero=>intro root d hk;rw [sd_end (by omega)]
 |succ k ih =>
  intro root d hk
  by_cases hc:hi ≤ 2 * root + 1
  ·rw [sd_end hc]
  ·have key:∀ c,c=2 * root + 1 ∨ c=2 * root + 1 + 1→(if lt d[F + root]! d[F + c]! = true then Go.Sort.siftDown lt hi F c (Go.Sort.swp d (F + root) (F + c)) else d).size=d.size:=by
    intro c hc'
    split
    ·rw [ih _ _ (by omega),sz_swp]
    ·rfl
   rw [sd_step hc _ rfl]
   exact key _ (by split<;>simp)
end
theorem shr_ex {T:Tab} {f:Nat} {d:Fn} {args:List FV} {h:Heap} {nx:Nat} {P:FV × Heap × Nat→Prop} (ht:tget T f=some (.fn d)) (hm:d.mode=.shr) (hn:args.length=d.np)
  (hh:@Ok Out (runs T [.code d.body] (params 0 args) h nx) ⟨fun x=>@Ok FV (finV d.res x) ⟨fun v=>P (v,x.2.2.1,x.2.2.2)⟩⟩) (hlt:f < RB:=by decide):∃ r,lim T f args h nx=some r∧P r:=by
 rw [lim_shr ht hm hn hlt]
 obtain ⟨x,h1,v,h2,h3⟩:=hh
 exact ⟨(v,x.2.2.1,x.2.2.2),by rw [h1,B_some,h2,B_some],h3⟩
def CntR (h:Heap) (q:Nat) (h':Heap):Prop:=(∃ s:Int,hget h' q=some (.row 1 [.int .i64 s]))∧∀ i,i ≠ q→hget h' i=hget h i
theorem CntR.trans {h h1 h2:Heap} {q:Nat} (a:CntR h q h1) (b:CntR h1 q h2):CntR h q h2:=⟨b.1,fun i hi=>(b.2 i hi).trans (a.2 i hi)⟩
theorem scanUp_le {p:Bd→Bool} {d:Array Bd} {j i:Nat}:Go.Sort.scanUp p d j i ≤ i ∨ Go.Sort.scanUp p d j i ≤ j + 1:=by
 by_cases h:i ≤ j + 1
 ·exact .inr ((Go.Sort.scanUp_spec p d j _ i rfl).2.1 h)
 ·rw [Go.Sort.scanUp,if_neg (by simp;omega)];exact .inl (Nat.le_refl _)
theorem scanUp_p {p:Bd→Bool} {d:Array Bd} {i j:Nat} (h:i ≤ j) (hp:p d[i]! = true):Go.Sort.scanUp p d j i=Go.Sort.scanUp p d j (i + 1):=by
 rw [Go.Sort.scanUp,if_pos (by simp only [hp,Bool.and_true,decide_eq_true_eq];exact h)]
theorem scanUp_n {p:Bd→Bool} {d:Array Bd} {i j:Nat} (hp:p d[i]! = false):Go.Sort.scanUp p d j i=i:=by
 rw [Go.Sort.scanUp,if_neg (by simp [hp])]
theorem scanUp_o {p:Bd→Bool} {d:Array Bd} {i j:Nat} (h:¬ i ≤ j):Go.Sort.scanUp p d j i=i:=by
 rw [Go.Sort.scanUp,if_neg (by simp;omega)]
theorem scanDown_p {p:Bd→Bool} {d:Array Bd} {i j:Nat} (h:i ≤ j + 1) (hp:p d[j + 1]! = true):Go.Sort.scanDown p d i (j + 1)=Go.Sort.scanDown p d i j:=by
 rw [Go.Sort.scanDown,if_pos (by simp only [hp,Bool.and_true,decide_eq_true_eq];exact h)]
theorem scanDown_n {p:Bd→Bool} {d:Array Bd} {i j:Nat} (hp:p d[j]! = false):Go.Sort.scanDown p d i j=j:=by
 cases j with
 |zero=>rfl
 |succ j=>rw [Go.Sort.scanDown,if_neg (by simp [hp])]
theorem scanDown_o {p:Bd→Bool} {d:Array Bd} {i j:Nat} (h:¬ i ≤ j):Go.Sort.scanDown p d i j=j:=by
 cases j with
 |zero=>rfl
 |succ j=>rw [Go.Sort.scanDown,if_neg (by simp;omega)]
theorem RowN.trans {id:Nat} {d d':Array Bd} {h h1 h2:Heap} {nx nx1 nx2:Nat} (a:RowN id d h nx h1 nx1) (b:RowN id d' h1 nx1 h2 nx2):RowN id d' h nx h2 nx2 :=
 ⟨b.1,Nat.le_trans a.2.1 b.2.1,fun i hi hne=>(b.2.2 i (Nat.lt_of_lt_of_le hi a.2.1) hne).trans (a.2.2 i hi hne)⟩
theorem RowN.up {id:Nat} {d:Array Bd} {h h1:Heap} {nx nx0 nx1 nx2:Nat} (a:RowN id d h nx h1 nx1) (h0:nx0 ≤ nx) (h2:nx1 ≤ nx2):RowN id d h nx0 h1 nx2 :=
 ⟨a.1,by have:=a.2.1;omega,fun i hi hne=>a.2.2 i (by omega) hne⟩
theorem RowN.refl {id:Nat} {d:Array Bd} {h:Heap} {nx nx':Nat} (hr:hget h id=some (rowB d)) (hn:nx ≤ nx'):RowN id d h nx h nx':=⟨hr,hn,fun _ _ _=>rfl⟩
end Go.FI
