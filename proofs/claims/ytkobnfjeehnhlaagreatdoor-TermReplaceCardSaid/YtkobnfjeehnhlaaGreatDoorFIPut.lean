/- Substitution,in plain Lean. -/
import Derived.Test.YtkobnfjeehnhlaaGreatDoorFIRep
set_option linter.all false
namespace Go.FI
mutual
def putT (n:List UInt8) (u:Te):Te→Te
 |.mk k w b s lo e l=>if k=2∧s=n then u else .mk k w b s lo false (putL n u l)
def putL (n:List UInt8) (u:Te):List Te→List Te
 |[]=>[]
 |t::l=>putT n u t::putL n u l
end
theorem putL_map (n:List UInt8) (u:Te) (l:List Te):putL n u l=l.map (putT n u):=by
 induction l with
 |nil=>rfl
 |cons t l ih=>simp only [putL,List.map_cons,ih]
theorem putT_eq (n:List UInt8) (u t:Te):putT n u t=if t.k=2∧t.s=n then u else .mk t.k t.w t.b t.s t.lo false (t.l.map (putT n u)):=by
 cases t with | mk k w b s lo e l=>rw [putT,putL_map];rfl
def occ (n:List UInt8):List Te→Nat
 |[]=>0
 |x::xs=>(if x.k=2∧x.s=n then 1 else 0) + occ n xs
theorem occ_app (n:List UInt8):∀ xs ys:List Te,occ n (xs ++ ys)=occ n xs + occ n ys:=by
 intro xs
 induction xs with
 |nil=>intro ys;simp [occ]
 |cons x xs ih=>intro ys;simp only [List.cons_append,occ,ih];omega
def grG (n:List UInt8) (m:Int) (a:Int) (x:Te):Int ⊕ Empty:=.inl (a + ((if x.k=2∧x.s=n then m - 1 else 0) + 1))
theorem grG_run (n:List UInt8) (m:Int):∀ (xs:List Te) (a:Int),foldE (grG n m) a xs=.inl (a + (xs.length + occ n xs * (m - 1))):=by
 intro xs
 induction xs with
 |nil=>intro a;simp [foldE,occ]
 |cons x xs ih =>
  intro a
  simp only [foldE,grG]
  have:=ih (a + ((if x.k=2∧x.s=n then m - 1 else 0) + 1))
  rw [show foldE (grG n m) (a + ((if x.k=2∧x.s=n then m - 1 else 0) + 1)) xs=_ from this]
  congr 1
  simp only [occ,List.length_cons]
  split
  ·push_cast;rw [Int.add_mul];omega
  ·push_cast;rw [Int.zero_add (occ n xs:Int)];omega
theorem occ_le (n:List UInt8):∀ xs:List Te,occ n xs ≤ xs.length:=by
 intro xs
 induction xs with
 |nil=>exact Nat.le_refl _
 |cons x xs ih=>simp only [occ,List.length_cons];split<;>omega
theorem Ok_ex {α β:Type} {x:Option α} {F:α→Option β} {ps:α→Prop} {q:Post β} (hl:∃ a,x=some a∧ps a) (hk:∀ a,ps a→@Ok β (F a) q):@Ok β (@B α β x ⟨F⟩) q:=by
 obtain ⟨a,h1,h2⟩:=hl
 rw [h1,B_some];exact hk a h2
theorem sizes_put (n:List UInt8) (u:Te) {l:List Te} (h:∀ x ∈ l,size (putT n u x)=size x + occ n (nodesT x) * (size u - 1)):sizes (l.map (putT n u))=sizes l + occ n (nodesL l) * (size u - 1):=by
 induction l with
 |nil=>simp [sizes,nodesL,occ]
 |cons a l ih =>
  rw [List.map_cons,sizes_cons,sizes_cons,nodesL_cons,occ_app,h a (by simp),ih fun x hx=>h x (by simp [hx]),Nat.add_mul]
  omega
theorem size_putT (n:List UInt8) (u t:Te) (ht:∀ x ∈ nodesT t,x.k=2→x.l.length=0):size (putT n u t)=size t + occ n (nodesT t) * (size u - 1):=by
 induction t using Tm'.ind with | h t ih =>
 have hl:=sizes_put n u (l:=t.l) fun x hx=>ih x hx fun y hy=>ht y (nodes_sub hx hy)
 rw [putT_eq,nodes_eq]
 simp only [occ]
 by_cases hm:t.k=2∧t.s=n
 ·have:=List.length_eq_zero_iff.1 (ht t (mem_nodes t) hm.1)
  rw [if_pos hm,if_pos hm,size_eq t,this]
  simp only [sizes,nodesL,occ]
  have:=size_pos u
  omega
 ·rw [if_neg hm,if_neg hm,size_eq t,size_eq,Nat.zero_add]
  show 1 + sizes (t.l.map (putT n u))=_
  rw [hl];omega
theorem RpL.get {h:Heap} {a b:Nat}:∀ {xs:List FV} {l:List Te},RpL h a b xs l→∀ j,j < l.length→∃ a0 a1 a2 a3 a4 a5,xs[j]? = some (.agg [a0,a1,a2,a3,a4,a5]):=by
 intro xs
 induction xs with
 |nil=>intro l hl j hj;cases l with | nil=>simp at hj | cons=>exact hl.elim
 |cons x xs ih =>
  intro l hl j hj
  cases l with
  |nil=>exact hl.elim
  |cons t l =>
   cases j with
   |zero=>obtain ⟨c,rfl,_⟩:=RpT_iff.1 hl.1;exact ⟨_,_,_,_,_,_,rfl⟩
   |succ j=>exact ih hl.2 j (by simpa using hj)
end Go.FI
