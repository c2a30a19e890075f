/- Walks with an early end. -/
import Derived.Test.YtkobnfjeehnhlaaGreatDoorFITm
set_option linter.all false
namespace Go.FI
def foldE {α β γ:Type} (g:α→γ→α ⊕ β):α→List γ→α ⊕ β
 |a,[]=>.inl a
 |a,x::xs=>match g a x with
  |.inl a'=>foldE g a' xs
  |.inr b=>.inr b
theorem foldE_app {α β γ:Type} (g:α→γ→α ⊕ β):∀ (xs ys:List γ) (a:α),foldE g a (xs ++ ys)=match foldE g a xs with
  |.inl a'=>foldE g a' ys
  |.inr b=>.inr b:=by
 intro xs
 induction xs with
 |nil=>intro ys a;rfl
 |cons x xs ih =>
  intro ys a
  simp only [List.cons_append,foldE]
  cases g a x with
  |inl a'=>exact ih ys a'
  |inr b=>rfl
theorem foldE_count {γ:Type}:∀ (xs:List γ) (n:Int),foldE (β:=Empty) (fun n _=>.inl (n + 1)) n xs=.inl (n + xs.length):=by
 intro xs
 induction xs with
 |nil=>intro n;simp [foldE]
 |cons x xs ih=>intro n;simp only [foldE,ih,List.length_cons];congr 1;omega
theorem wrap_add (a b:Int):IntKind.i64.wrap (IntKind.i64.wrap a + b)=IntKind.i64.wrap (a + b):=by
 simp [IntKind.wrap,IntKind.bits,IntKind.signed]
 (repeat' split)<;>omega
def Fr (b0:Nat) (h h':Heap) (nx nx':Nat):Prop:=nx ≤ nx'∧∀ i,b0 ≤ i→i < nx→hget h' i=hget h i
theorem Fr.refl (b0:Nat) (h:Heap) (nx:Nat):Fr b0 h h nx nx:=⟨Nat.le_refl _,fun _ _ _=>rfl⟩
theorem Fr.trans {b0:Nat} {h h' h'':Heap} {nx nx' nx'':Nat} (h1:Fr b0 h h' nx nx') (h2:Fr b0 h' h'' nx' nx''):Fr b0 h h'' nx nx'' :=
 ⟨Nat.le_trans h1.1 h2.1,fun i hi hl=>by have:=h1.1;rw [h2.2 i hi (by omega),h1.2 i hi hl]⟩
def ResR {α β:Type} (b0:Nat) (h:Heap) (nx:Nat) (P:α→Heap→Prop) (Q:β→Heap→Prop) (r:FV × Heap × Nat):α ⊕ β→Prop
 |.inl a=>r.1=.bool true∧P a r.2.1∧Fr b0 h r.2.1 nx r.2.2
 |.inr b=>r.1=.bool false∧Q b r.2.1∧Fr b0 h r.2.1 nx r.2.2
def Keeps {α:Type} (b0:Nat) (P:α→Heap→Prop):Prop:=∀ a h h',P a h→(∀ i,i < b0→hget h' i=hget h i)→P a h'
theorem Fr.ext {b0:Nat} {h h1 h':Heap} {nx nx1 nx':Nat} (h2:Fr b0 h1 h' nx1 nx') (hn:nx ≤ nx1) (he:∀ i,i < nx→hget h1 i=hget h i):Fr b0 h h' nx nx' :=
 ⟨Nat.le_trans hn h2.1,fun i hi hl=>by rw [h2.2 i hi (by omega),he i hl]⟩
theorem ResR.base {α β:Type} {b0:Nat} {h h1:Heap} {nx nx1:Nat} {P:α→Heap→Prop} {Q:β→Heap→Prop} {r:FV × Heap × Nat} {s:α ⊕ β} (hf:Fr b0 h h1 nx nx1) (hr:ResR b0 h1 nx1 P Q r s):ResR b0 h nx P Q r s:=by
 cases s with
 |inl a=>exact ⟨hr.1,hr.2.1,hf.trans hr.2.2⟩
 |inr b=>exact ⟨hr.1,hr.2.1,hf.trans hr.2.2⟩
theorem Fr.up {b0:Nat} {h h1:Heap} {nx nx1:Nat} (hn:nx ≤ nx1) (he:∀ i,i < nx→hget h1 i=hget h i):Fr b0 h h1 nx nx1:=⟨hn,fun i _ hl=>he i hl⟩
theorem Ok_post {α β:Type} {x:Option α} {f:α→Option β} {p q:α→β→Prop} (h:@Ok α x ⟨fun a=>@Ok β (f a) ⟨p a⟩⟩) (hq:∀ a b,p a b→q a b):@Ok α x ⟨fun a=>@Ok β (f a) ⟨q a⟩⟩:=by
 obtain ⟨a,h1,b,h2,h3⟩:=h
 exact ⟨a,h1,b,h2,hq a b h3⟩
theorem hgx {i j:Nat} {o:Obj} {h:Heap}:hget (hset h i o) j=if i=j then (hget h i).map (fun _=>o) else hget h j:=by
 split
 ·rename_i e;subst e
  cases hg:hget h i with
  |none =>
   have:∀ h:Heap,hget h i=none→hget (hset h i o) i=none:=by
    intro h
    induction h with
    |nil=>intro _;rfl
    |cons p h ih =>
     obtain ⟨k,v⟩:=p
     intro hh
     simp only [hget] at hh
     split at hh
     ·cases hh
     ·rename_i e;simp only [hset,if_neg e,hget];exact ih hh
   rw [this h hg];rfl
  |some q=>rw [hgs_eq hg];rfl
 ·rename_i e;exact hgs_ne e
theorem hgx_e {i:Nat} {o:Obj} {h:Heap}:hget (hset h i o) i=(hget h i).map (fun _=>o):=by rw [hgx,if_pos rfl]
abbrev Env0:=List (List UInt8 × Int)
def kvV (p:List UInt8 × Int):FV × FV:=(.str p.1,.int .i64 p.2)
def lkE:Env0→List UInt8→Option Int
 |[],_=>none
 |(n,w)::r,s=>if s=n then some w else lkE r s
theorem find_E (s:List UInt8):∀ en:Env0,FI.find 1 (.str s) (en.map kvV)=some ((lkE en s).map (.int .i64)):=by
 intro en
 induction en with
 |nil=>rfl
 |cons p en ih =>
  obtain ⟨n,w⟩:=p
  simp only [List.map_cons,kvV,FI.find,keyEq,bnd,lkE]
  by_cases e:s=n
  ·simp [e]
  ·rw [if_neg (by simpa using e),if_neg e]
   exact ih
theorem upd_N (s:List UInt8) (w:Int):∀ en:Env0,lkE en s=none→FI.update 1 (.str s) (.int .i64 w) (en.map kvV)=some ((en ++ [(s,w)]).map kvV):=by
 intro en
 induction en with
 |nil=>intro _;rfl
 |cons p en ih =>
  obtain ⟨n,v⟩:=p
  intro h
  simp only [lkE] at h
  by_cases e:s=n
  ·simp [e] at h
  ·simp only [if_neg e] at h
   have e':(s == n)=false:=by simpa using e
   simp only [List.map_cons,kvV,FI.update,keyEq,bnd,List.cons_append]
   rw [if_neg (by simp [e'])]
   have:=ih h
   simp only [List.map_append,List.map_cons,List.map_nil,kvV] at this ⊢
   rw [this]
theorem upd_S (s:List UInt8) (w:Int):∀ en:Env0,lkE en s=some w→FI.update 1 (.str s) (.int .i64 w) (en.map kvV)=some (en.map kvV):=by
 intro en
 induction en with
 |nil=>intro h;cases h
 |cons p en ih =>
  obtain ⟨n,v⟩:=p
  intro h
  simp only [lkE] at h
  by_cases e:s=n
  ·subst e;simp at h;subst h;simp [kvV,FI.update,keyEq,bnd]
  ·simp only [if_neg e] at h
   have e':(s == n)=false:=by simpa using e
   simp only [List.map_cons,kvV,FI.update,keyEq,bnd]
   rw [if_neg (by simp [e'])]
   have:=ih h
   rw [this]
def varG (en:Env0) (x:Te):Env0 ⊕ Unit :=
 if x.k=2 then match lkE en x.s with
  |none=>.inl (en ++ [(x.s,x.w)])
  |some w=>if w=x.w then .inl en else .inr ()
 else .inl en
def varsE (t:Te):Env0 ⊕ Unit:=foldE varG [] (nodesT t)
def varL:List Te→Env0
 |[]=>[]
 |x::xs=>if x.k=2 then (x.s,x.w)::varL xs else varL xs
def Cons (L:Env0):Prop:=∀ s v w,(s,v) ∈ L→(s,w) ∈ L→v=w
theorem Cons.sub {L M:Env0} (h:Cons L) (hs:∀ p ∈ M,p ∈ L):Cons M:=fun s v w h1 h2=>h s v w (hs _ h1) (hs _ h2)
def Knows (en L:Env0):Prop:=∀ s w,lkE en s=some w ↔ (s,w) ∈ L
theorem lkE_app (s:List UInt8) (n:List UInt8) (w:Int):∀ en:Env0,lkE (en ++ [(n,w)]) s=match lkE en s with | some v=>some v | none=>if s=n then some w else none:=by
 intro en
 induction en with
 |nil=>simp only [List.nil_append,lkE]
 |cons p en ih =>
  obtain ⟨m,v⟩:=p
  simp only [List.cons_append,lkE]
  by_cases e:s=m
  ·rw [if_pos e,if_pos e]
  ·rw [if_neg e,if_neg e];exact ih
theorem var_run:∀ (xs:List Te) (en L:Env0),Cons L→Knows en L→match foldE varG en xs with
  |.inl en'=>Cons (L ++ varL xs)∧Knows en' (L ++ varL xs)
  |.inr _=>¬ Cons (L ++ varL xs):=by
 intro xs
 induction xs with
 |nil=>intro en L h1 h2;simp only [foldE,varL,List.append_nil];exact ⟨h1,h2⟩
 |cons x xs ih =>
  intro en L h1 h2
  by_cases hk:x.k=2
  ·cases hl:lkE en x.s with
   |none =>
    have hg:varG en x=.inl (en ++ [(x.s,x.w)]):=by simp [varG,hk,hl]
    have hno:∀ w,(x.s,w) ∉ L:=fun w hw=>by have:=(h2 x.s w).2 hw;rw [hl] at this;cases this
    have:=ih (en ++ [(x.s,x.w)]) (L ++ [(x.s,x.w)]) (fun s v w hv hw=>by
     simp only [List.mem_append,List.mem_singleton,Prod.mk.injEq] at hv hw
     rcases hv with hv | ⟨rfl,rfl⟩<;>rcases hw with hw | ⟨e,rfl⟩
     ·exact h1 s v w hv hw
     ·subst e;exact absurd hv (hno v)
     ·exact absurd hw (hno w)
     ·rfl) (fun s w=>by
     rw [lkE_app]
     simp only [List.mem_append,List.mem_singleton,Prod.mk.injEq]
     cases hs:lkE en s with
     |some v =>
      have hv:=(h2 s v).1 hs
      simp only [Option.some.injEq]
      constructor
      ·rintro rfl;exact .inl hv
      ·rintro (hw | ⟨rfl,rfl⟩)
       ·exact h1 s v w hv hw
       ·exact absurd hv (hno v)
     |none =>
      have hn:∀ w,(s,w) ∉ L:=fun w hw=>by have:=(h2 s w).2 hw;rw [hs] at this;cases this
      by_cases e:s=x.s
      ·simp only [e,if_true,Option.some.injEq]
       constructor
       ·rintro rfl;exact .inr ⟨trivial,rfl⟩
       ·rintro (hw | ⟨_,rfl⟩)
        ·exact absurd hw (hno w)
        ·rfl
      ·simp only [e,if_false]
       constructor
       ·intro h;cases h
       ·rintro (hw | ⟨h,_⟩)
        ·exact absurd hw (hn w)
        ·exact h.elim)
    simp only [foldE,hg,varL,hk,if_true]
    rw [show L ++ (x.s,x.w)::varL xs=(L ++ [(x.s,x.w)]) ++ varL xs by simp]
    exact this
   |some w =>
    have hw:=(h2 x.s w).1 hl
    by_cases e:w=x.w
    ·have hg:varG en x=.inl en:=by simp [varG,hk,hl,e]
     have:=ih en (L ++ [(x.s,x.w)]) (h1.sub (fun p hp=>by
      simp only [List.mem_append,List.mem_singleton] at hp
      rcases hp with hp | rfl
      ·exact hp
      ·rw [← e];exact hw)) (fun s v=>by
      rw [h2]
      simp only [List.mem_append,List.mem_singleton,Prod.mk.injEq]
      constructor
      ·exact .inl
      ·rintro (h | ⟨rfl,rfl⟩)
       ·exact h
       ·rw [← e];exact hw)
     simp only [foldE,hg,varL,hk,if_true]
     rw [show L ++ (x.s,x.w)::varL xs=(L ++ [(x.s,x.w)]) ++ varL xs by simp]
     exact this
    ·have hg:varG en x=.inr ():=by simp [varG,hk,hl,e]
     simp only [foldE,hg,varL,hk,if_true]
     intro hc
     exact e (hc x.s w x.w (by simp [hw]) (by simp))
  ·have hg:varG en x=.inl en:=by simp [varG,hk]
   simp only [foldE,hg,varL,hk,if_false]
   exact ih en L h1 h2
def varList (t:Te):Env0:=varL (nodesT t)
theorem varsE_in {t:Te} {en:Env0} (h:varsE t=.inl en):Cons (varList t)∧Knows en (varList t):=by
 have:=var_run (nodesT t) [] [] (fun s v w h=>by cases h) (fun s w=>by simp [lkE])
 unfold varsE at h
 rw [h] at this
 simpa [varList] using this
theorem varL_len:∀ xs:List Te,(varL xs).length ≤ xs.length:=by
 intro xs
 induction xs with
 |nil=>exact Nat.le_refl _
 |cons x xs ih=>simp only [varL];split<;>simp only [List.length_cons]<;>omega
end Go.FI
