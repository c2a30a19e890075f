/- The value of a term. -/
import Derived.Test.YtkobnfjeehnhlaaGreatDoorFIOps
import Derived.Test.YtkobnfjeehnhlaaGreatDoorFIVis
import Derived.Test.YtkobnfjeehnhlaaGreatDoorFIRep
set_option linter.all false
namespace Go.FI
def vop (ld:Nat→Nat→Nat→Nat) (k w b lo:Int) (r:Nat) (ws:List Int) (vs:List Nat):Nat :=
 if k=1 then b.toNat else if k=2 then r
 else if k=3 ∨ k=4 then unN k (ws.getD 0 0).toNat (vs.getD 0 0)
 else if k=19 then (if vs.getD 0 0=1 then vs.getD 1 0 else vs.getD 2 0)
 else if k=20 then vs.getD 0 0 * 2 ^ (ws.getD 1 0).toNat + vs.getD 1 0
 else if k=21 then vs.getD 0 0 / 2 ^ lo.toNat % 2 ^ w.toNat
 else if k=22 ∨ k=23 then exN (decide (k=23)) (ws.getD 0 0).toNat w.toNat (vs.getD 0 0)
 else if k=24 then ld (ws.getD 0 0).toNat (vs.getD 0 0) w.toNat
 else opN k (ws.getD 0 0).toNat (vs.getD 0 0) (vs.getD 1 0)
section
variable (ρ:List UInt8→Nat) (ld:Nat→Nat→Nat→Nat)
mutual
def valT:Te→Nat
 |.mk k w b s lo _ l=>vop ld k w b lo (ρ s) (l.map Tm'.w) (valL l)
def valL:List Te→List Nat
 |[]=>[]
 |x::r=>valT x::valL r
end
theorem valL_map (l:List Te):valL ρ ld l=l.map (valT ρ ld):=by
 induction l with
 |nil=>simp [valL]
 |cons x l ih=>simp only [valL,ih,List.map_cons]
theorem valT_eq (t:Te):valT ρ ld t=vop ld t.k t.w t.b t.lo (ρ t.s) (t.l.map Tm'.w) (t.l.map (valT ρ ld)):=by
 cases t;simp only [valT,valL_map,Tm'.k,Tm'.w,Tm'.b,Tm'.s,Tm'.lo,Tm'.l]
variable {ρ ld}
theorem vop_r {k w b lo:Int} {r r':Nat} {ws:List Int} {vs:List Nat} (h:k=2→r=r'):vop ld k w b lo r ws vs=vop ld k w b lo r' ws vs:=by
 unfold vop
 by_cases h1:k=1
 ·rw [if_pos h1,if_pos h1]
 ·rw [if_neg h1,if_neg h1]
  by_cases h2:k=2
  ·rw [if_pos h2,if_pos h2];exact h h2
  ·rw [if_neg h2,if_neg h2]
theorem valT_congr {ρ':List UInt8→Nat} (t:Te) (h:∀ x ∈ nodesT t,x.k=2→ρ x.s=ρ' x.s):valT ρ ld t=valT ρ' ld t:=by
 induction t using Tm'.ind with
 |h t ih =>
 have hl:t.l.map (valT ρ ld)=t.l.map (valT ρ' ld):=List.map_congr_left fun x hx=>ih x hx fun y hy=>h y (nodes_sub hx hy)
 rw [valT_eq,valT_eq,hl]
 exact vop_r (h t (mem_nodes t))
theorem valT_er (t:Te):valT ρ ld (er t)=valT ρ ld t:=by
 induction t using Tm'.ind with
 |h t ih =>
 rw [valT_eq,valT_eq,er_k,er_w,er_b,er_s,er_lo,er_l,List.map_map,List.map_map]
 congr 1
 ·exact List.map_congr_left fun x _=>er_w x
 ·exact List.map_congr_left fun x hx=>ih x hx
end
abbrev EnvU:=List (List UInt8 × Nat)
def kvU (p:List UInt8 × Nat):FV × FV:=(.str p.1,.int .u64 p.2)
def lkU:EnvU→List UInt8→Option Nat
 |[],_=>none
 |(n,w)::r,s=>if s=n then some w else lkU r s
theorem find_U (s:List UInt8):∀ en:EnvU,FI.find 1 (.str s) (en.map kvU)=some ((lkU en s).map fun x:Nat=>.int .u64 x):=by
 intro en
 induction en with
 |nil=>rfl
 |cons p en ih =>
  obtain ⟨n,w⟩:=p
  simp only [List.map_cons,kvU,FI.find,keyEq,bnd,lkU]
  by_cases e:s=n
  ·simp [e]
  ·rw [if_neg (by simpa using e),if_neg e]
   exact ih
theorem upd_U (s:List UInt8) (w:Nat):∀ en:EnvU,lkU en s=none→FI.update 1 (.str s) (.int .u64 w) (en.map kvU)=some ((en ++ [(s,w)]).map kvU):=by
 intro en
 induction en with
 |nil=>intro _;rfl
 |cons p en ih =>
  obtain ⟨n,v⟩:=p
  intro h
  simp only [lkU] at h
  by_cases e:s=n
  ·simp [e] at h
  ·simp only [if_neg e] at h
   have e':(s == n)=false:=by simpa using e
   simp only [List.map_cons,kvU,FI.update,keyEq,bnd,List.cons_append]
   rw [if_neg (by simp [e'])]
   have:=ih h
   simp only [List.map_append,List.map_cons,List.map_nil,kvU] at this ⊢
   rw [this]
end Go.FI
