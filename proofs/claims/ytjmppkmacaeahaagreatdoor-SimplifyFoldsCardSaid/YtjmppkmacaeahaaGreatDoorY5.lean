/- Parts of the proof, one behind the other. -/
import Derived.Test.YtjmppkmacaeahaaGreatDoorSF8
import Derived.Test.YtjmppkmacaeahaaGreatDoorSF7
import Derived.Test.YtjmppkmacaeahaaGreatDoorSF4
import Derived.KernelRfl
set_option linter.all false
namespace Go.Proofs.YtjmppkmacaeahaaGreatDoor.Fi
open Go.FI
theorem d_Y5 {P:Prop} (h:P:=by first|omega|(simp only[EVL]<;>omega)|(simp only[hget_c,Nat.reduceEqDiff,↓reduceIte];done)|assumption|(simp (disch:=omega) only[hg_ne,hg_eq,hgs_ne, *];done)|(simp only [TL,LAWSb];done)|with_unfolding_all rfl):P:=h
def oV:OuR→FV
 |.fst=>.fn 84 []
 |.snd=>.fn 82 []
 |.num x=>.fn 141 [.eptr [.int .u64 x] 0]
def fR:Rul→Nat
 |.lft _ _=>135 | .rgt _ _=>138 | .sam _=>139 | .twi=>80 | .far=>87 | .cho=>88 | .joi=>89 | .who=>90 | .inn=>91
def cR:Rul→List FV
 |.lft x o=>[.eptr [oV o] 0,.eptr [.int .u64 x] 0]
 |.rgt x o=>[.eptr [oV o] 0,.eptr [.int .u64 x] 0]
 |.sam o=>[.eptr [oV o] 0]
 |_=>[]
def rV (R:Rul):FV:=.fn (fR R) (cR R)
def isV (x:Option (FV × Heap × Nat)) (v:FV):Bool:=match x with
 |some (w,_,_)=>eqv w v
 |none=>false
theorem isV_some {x:Option (FV × Heap × Nat)} {v:FV} (h:isV x v=true):∃ h' nx,x=some (v,h',nx):=by
 match x,h with
 |some (w,h',nx),h=>exact ⟨h',nx,by rw [eqv_eq h]⟩
set_option maxRecDepth 1000000 in
theorem rules_run:(List.range 25).all (fun k=>isV (FI.call T 1000 50 [.int .u8 k] [] 0) (.lst (rulesN k).isEmpty ((rulesN k).map rV)))=true:=by kernel_rfl
theorem rules_spec (k:Nat) (hk:k < 25) (h:Heap) (nx:Nat):lim T 50 [.int .u8 k] h nx=some (.lst (rulesN k).isEmpty ((rulesN k).map rV),h,nx):=by
 have h1:=List.all_eq_true.1 rules_run k (List.mem_range.2 hk)
 obtain ⟨h',nx',hl⟩:=isV_some h1
 have hl:=le_lim T _ _ _ _ _ _ hl
 exact lim_iso_any tg50 rfl hl (by decide) h nx
theorem con_spec (w x:Int):∀ h nx,lim T 78 [.int .i64 w,.int .u64 x] h nx=some (.agg [.int .u8 (conT w x).k,.int .i64 (conT w x).w,.int .u64 (conT w x).b,.str (conT w x).s,.int .i64 (conT w x).lo,.lst (conT w x).e ((conT w x).l.map tV)],h,nx):=by
 refine lim_iso tg78 rfl rfl rfl ?_
 simp (disch:=first | exact d_Y5 | fail) only [c78,EVS,Nat.reduceAdd,Nat.reduceSub,Int.reduceToNat,Nat.reduceMul,Nat.reduceEqDiff,Nat.reduceLeDiff,Int.reduceEq,Int.reduceLT,Int.reduceLE,↓reduceIte]
 rfl
theorem is_spec (t:Te) (x:Int):∀ h nx,lim T 136 [.agg [.int .u8 (t).k,.int .i64 (t).w,.int .u64 (t).b,.str (t).s,.int .i64 (t).lo,.lst (t).e ((t).l.map tV)],.int .u64 x] h nx=some (.bool (isK t x),h,nx):=by
 refine lim_iso tg136 rfl rfl (by simp [pures,pure_,pu_Ts]) ?_
 unfold isK
 by_cases hk:t.k=1
 ·simp (disch:=first | exact d_Y5 | fail) only [c136,TL,hk,EVS,Nat.reduceAdd,Nat.reduceSub,Int.reduceToNat,Nat.reduceMul,Nat.reduceEqDiff,Nat.reduceLeDiff,Int.reduceEq,Int.reduceLT,Int.reduceLE,↓reduceIte]
 ·simp (disch:=first | exact d_Y5 | fail) only [c136,TL,hk,EVS,Nat.reduceAdd,Nat.reduceSub,Int.reduceToNat,Nat.reduceMul,Nat.reduceEqDiff,Nat.reduceLeDiff,Int.reduceEq,Int.reduceLT,Int.reduceLE,↓reduceIte]
  rfl
theorem valueW_spec (w x:Int) (h1:1 ≤ w) (h2:w ≤ 64):∀ h nx,lim T 137 [.int .i64 w,.int .u64 x] h nx=some (.int .u64 (vW w x),h,nx):=by
 refine lim_iso tg137 rfl rfl rfl ?_
 have hm:=mask_spec' w h1 h2
 simp (disch:=first | exact d_Y5 | fail) only [c137,hm,EVS,Nat.reduceAdd,Nat.reduceSub,Int.reduceToNat,Nat.reduceMul,Nat.reduceEqDiff,Nat.reduceLeDiff,Int.reduceEq,Int.reduceLT,Int.reduceLE,↓reduceIte]
 rfl
end Go.Proofs.YtjmppkmacaeahaaGreatDoor.Fi
