/- The value of a term under substitution;its variables. -/
import Derived.Test.YtkobnfjeehnhlaaGreatDoorFIPut
import Derived.Test.YtkobnfjeehnhlaaGreatDoorFIVal
import Derived.Test.YtkobnfjeehnhlaaGreatDoorFIVars
set_option linter.all false
namespace Go.FI
theorem put_w {n:List UInt8} {u t:Te} (h:t.k=2→t.s=n→t.w=u.w):(putT n u t).w=t.w:=by
 rw [putT_eq]
 split
 ·rename_i hk;exact (h hk.1 hk.2).symm
 ·rfl
theorem valT_put {n:List UInt8} {u:Te} {ρ:List UInt8→Nat} {ld:Nat→Nat→Nat→Nat} (t:Te) (h:∀ x ∈ nodesT t,x.k=2→x.s=n→x.w=u.w) :
  valT ρ ld (putT n u t)=valT (fun s=>if s=n then valT ρ ld u else ρ s) ld t:=by
 induction t using Tm'.ind with
 |h t ih =>
 have e2:=valT_eq (fun s=>if s=n then valT ρ ld u else ρ s) ld t
 by_cases hk:t.k=2∧t.s=n
 ·rw [putT_eq,if_pos hk,e2]
  unfold vop
  rw [if_neg (by omega),if_pos hk.1]
  simp [hk.2]
 ·rw [putT_eq,if_neg hk,valT_eq,e2]
  show vop ld t.k t.w t.b t.lo (ρ t.s) ((t.l.map (putT n u)).map Tm'.w) ((t.l.map (putT n u)).map (valT ρ ld))=_
  have h1:(t.l.map (putT n u)).map Tm'.w=t.l.map Tm'.w:=by
   rw [List.map_map]
   exact List.map_congr_left fun x hx=>put_w (h x (nodes_sub hx (mem_nodes x)))
  have h2:(t.l.map (putT n u)).map (valT ρ ld)=t.l.map (valT (fun s=>if s=n then valT ρ ld u else ρ s) ld):=by
   rw [List.map_map]
   exact List.map_congr_left fun x hx=>ih x hx fun y hy=>h y (nodes_sub hx hy)
  rw [h1,h2]
  exact vop_r fun k2=>(if_neg fun e=>hk ⟨k2,e⟩).symm
theorem put_none {n:List UInt8} {u:Te} (t:Te) (h:∀ x ∈ nodesT t,¬ (x.k=2∧x.s=n)):er (putT n u t)=er t:=by
 induction t using Tm'.ind with
 |h t ih =>
 rw [putT_eq,if_neg (h t (mem_nodes t)),er_eq,er_eq t]
 show Tm'.mk t.k t.w t.b t.s t.lo false ((t.l.map (putT n u)).map er)=_
 rw [List.map_map]
 congr 1
 exact List.map_congr_left fun x hx=>ih x hx fun y hy=>h y (nodes_sub hx hy)
theorem varL_mem {xs:List Te} {p:List UInt8 × Int}:p ∈ varL xs ↔ ∃ y ∈ xs,y.k=2∧p=(y.s,y.w):=by
 induction xs with
 |nil=>simp [varL]
 |cons y ys ih =>
  simp only [varL]
  split
  ·rename_i hk
   rw [List.mem_cons,ih]
   constructor
   ·rintro (rfl | ⟨z,hz,h2⟩)
    ·exact ⟨y,by simp,hk,rfl⟩
    ·exact ⟨z,by simp [hz],h2⟩
   ·rintro ⟨z,hz,h2,h3⟩
    rcases List.mem_cons.1 hz with rfl | hz
    ·exact .inl h3
    ·exact .inr ⟨z,hz,h2,h3⟩
  ·rename_i hk
   rw [ih]
   constructor
   ·rintro ⟨z,hz,h2⟩;exact ⟨z,by simp [hz],h2⟩
   ·rintro ⟨z,hz,h2,h3⟩
    rcases List.mem_cons.1 hz with rfl | hz
    ·exact absurd h2 hk
    ·exact ⟨z,hz,h2,h3⟩
theorem nodesL_in {l:List Te} {y:Te}:y ∈ nodesL l ↔ ∃ x ∈ l,y ∈ nodesT x:=by
 induction l with
 |nil=>simp [nodesL]
 |cons a l ih=>rw [nodesL_cons,List.mem_append,ih];simp
theorem varList_put {n:List UInt8} {u:Te} (t:Te) (p:List UInt8 × Int) (hleaf:∀ x ∈ nodesT t,x.k=2→x.l=[]) :
  p ∈ varList (putT n u t) ↔ (p ∈ varList t∧p.1 ≠ n) ∨ (p ∈ varList u∧∃ w,(n,w) ∈ varList t):=by
 induction t using Tm'.ind with
 |h t ih =>
 have split':∀ q,q ∈ varList t ↔ (t.k=2∧q=(t.s,t.w)) ∨ ∃ x ∈ t.l,q ∈ varList x:=by
  intro q
  unfold varList
  rw [varL_mem]
  constructor
  ·rintro ⟨y,hy,h2,h3⟩
   rw [nodes_eq,List.mem_cons,nodesL_in] at hy
   rcases hy with rfl | ⟨x,hx,hy⟩
   ·exact .inl ⟨h2,h3⟩
   ·exact .inr ⟨x,hx,varL_mem.2 ⟨y,hy,h2,h3⟩⟩
  ·rintro (⟨h2,h3⟩ | ⟨x,hx,hy⟩)
   ·exact ⟨t,mem_nodes t,h2,h3⟩
   ·obtain ⟨y,hy,h2,h3⟩:=varL_mem.1 hy
    exact ⟨y,nodes_sub hx hy,h2,h3⟩
 have ih':=fun x hx=>ih x hx fun y hy=>hleaf y (nodes_sub hx hy)
 by_cases hk:t.k=2∧t.s=n
 ·rw [putT_eq,if_pos hk]
  have hl:=hleaf t (mem_nodes t) hk.1
  have hs:∀ q,q ∈ varList t ↔ q=(n,t.w):=fun q=>by
   rw [split',hl];simp [hk.1,hk.2]
  constructor
  ·intro h;exact .inr ⟨h,t.w,(hs _).2 rfl⟩
  ·rintro (⟨h,hne⟩ | ⟨h,_⟩)
   ·rw [hs] at h;subst h;exact absurd rfl hne
   ·exact h
 ·rw [putT_eq,if_neg hk]
  have hs:∀ q,q ∈ varList (Tm'.mk t.k t.w t.b t.s t.lo false (t.l.map (putT n u))) ↔ (t.k=2∧q=(t.s,t.w)) ∨ ∃ x ∈ t.l,q ∈ varList (putT n u x):=by
   intro q
   unfold varList
   rw [varL_mem,nodes_eq]
   simp only [Tm'.l,List.mem_cons,nodesL_in,List.mem_map]
   constructor
   ·rintro ⟨y,(rfl | ⟨_,⟨x,hx,rfl⟩,hy⟩),h2,h3⟩
    ·exact .inl ⟨h2,h3⟩
    ·exact .inr ⟨x,hx,varL_mem.2 ⟨y,hy,h2,h3⟩⟩
   ·rintro (⟨h2,h3⟩ | ⟨x,hx,hy⟩)
    ·exact ⟨_,.inl rfl,h2,h3⟩
    ·obtain ⟨y,hy,h2,h3⟩:=varL_mem.1 hy
     exact ⟨y,.inr ⟨_,⟨x,hx,rfl⟩,hy⟩,h2,h3⟩
  rw [hs]
  constructor
  ·rintro (⟨h2,rfl⟩ | ⟨x,hx,h⟩)
   ·exact .inl ⟨(split' _).2 (.inl ⟨h2,rfl⟩),fun e=>hk ⟨h2,e⟩⟩
   ·rcases (ih' x hx).1 h with ⟨h1,h2⟩ | ⟨h1,w,h2⟩
    ·exact .inl ⟨(split' _).2 (.inr ⟨x,hx,h1⟩),h2⟩
    ·exact .inr ⟨h1,w,(split' _).2 (.inr ⟨x,hx,h2⟩)⟩
  ·rintro (⟨h1,h2⟩ | ⟨h1,w,h2⟩)
   ·rcases (split' _).1 h1 with h3 | ⟨x,hx,h3⟩
    ·exact .inl h3
    ·exact .inr ⟨x,hx,(ih' x hx).2 (.inl ⟨h3,h2⟩)⟩
   ·rcases (split' _).1 h2 with ⟨h3,h4⟩ | ⟨x,hx,h3⟩
    ·cases h4;exact absurd ⟨h3,rfl⟩ hk
    ·exact .inr ⟨x,hx,(ih' x hx).2 (.inr ⟨h1,w,h3⟩)⟩
theorem varList_er (t:Te):varList (er t)=varList t:=by
 unfold varList
 rw [nodes_er]
 have:∀ xs:List Te,varL (xs.map er)=varL xs:=by
  intro xs
  induction xs with
  |nil=>rfl
  |cons x xs ih=>simp only [List.map_cons,varL,er_k,er_s,er_w,ih]
 exact this _
theorem varList_of_er {a b:Te} (h:er a=er b):varList a=varList b:=by rw [← varList_er a,h,varList_er]
theorem TOk_of_er {a b:Te} (e:er a=er b) (h:TOk a):TOk b:=fun x hx=>by
 have h1:er x ∈ nodesT (er b):=by rw [nodes_er];exact List.mem_map_of_mem hx
 rw [← e,nodes_er] at h1
 obtain ⟨y,hy,h2⟩:=List.mem_map.1 h1
 have h3:=h y hy
 unfold nodeT at h3 ⊢
 have hk:(er y).k=(er x).k:=by rw [h2]
 have hw:(er y).w=(er x).w:=by rw [h2]
 have hb:(er y).b=(er x).b:=by rw [h2]
 have hs:(er y).s=(er x).s:=by rw [h2]
 have hlo:(er y).lo=(er x).lo:=by rw [h2]
 have hl:(er y).l.length=(er x).l.length:=by rw [h2]
 simp only [er_k,er_w,er_b,er_s,er_lo,er_l,List.length_map] at hk hw hb hs hlo hl
 rw [hk,hw,hb,hs,hlo,hl] at h3
 exact h3
theorem TOk_put (n:List UInt8) {u:Te} (hu:TOk u) (t:Te) (ht:TOk t):TOk (putT n u t):=by
 induction t using Tm'.ind with
 |h t ih =>
 rw [putT_eq]
 split
 ·exact hu
 ·intro x hx
  rw [nodes_eq,List.mem_cons] at hx
  rcases hx with rfl | hx
  ·have:=ht.self
   obtain ⟨a1,a2,a3,a4,a5,a6⟩:=this
   exact ⟨a1,a2,a3,a4,a5,by show (t.l.map (putT n u)).length ≤ _;rw [List.length_map];exact a6⟩
  ·obtain ⟨y,hy,hx⟩:=nodesL_in.1 hx
   obtain ⟨z,hz,rfl⟩:=List.mem_map.1 hy
   exact ih z hz (ht.sub hz) x hx
end Go.FI
