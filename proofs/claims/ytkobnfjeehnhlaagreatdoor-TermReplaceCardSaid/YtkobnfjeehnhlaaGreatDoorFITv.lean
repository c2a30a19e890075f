/- A term among the values of a row's types. -/
import Derived.Test.YtkobnfjeehnhlaaGreatDoorFIView
import Derived.Test.YtkobnfjeehnhlaaGreatDoorFITm
set_option linter.all false
namespace Go.FI
variable [Sys]
section
variable {P:Program} {n:Nat} {t:TypeId} {cs:List FV}
theorem OfT.slice' {e:TypeId} (h:OfT P (n + 1) t cs) (he:sliceOf P t=some e):∃ (css:List (List FV)),cs=[.lst false (css.map (mkE P e))]∧css.length ≤ maxLen∧∀ c ∈ css,OfT P n e c:=by
 obtain ⟨_,_,h⟩:=h
 unfold sliceOf at he
 split at he
 ·rename_i hu
  cases he
  rw [hu] at h
  exact h
 ·cases he
theorem OfT.field' (h:OfT P (n + 1) t cs) (i:Nat) {u off k:Nat} (hf:fldAt P t i=some (u,off,k)):OfT P n u ((cs.drop off).take k):=by
 obtain ⟨_,_,h⟩:=h
 unfold fldAt at hf
 split at hf
 ·rename_i fs hu
  rw [hu] at h
  cases hx:fs.toList[i]? with
  |none=>rw [hx] at hf;cases hf
  |some f =>
   rw [hx] at hf
   cases hf
   exact h f (List.mem_of_getElem? hx)
 ·cases hf
theorem nodesL_of {l:List Te} {y:Te}:y ∈ nodesL l→∃ x ∈ l,y ∈ nodesT x:=by
 induction l with
 |nil=>intro h;cases h
 |cons a l ih =>
  intro h
  rw [nodesL_cons,List.mem_append] at h
  rcases h with h | h
  ·exact ⟨a,by simp,h⟩
  ·obtain ⟨x,h1,h2⟩:=ih h;exact ⟨x,by simp [h1],h2⟩
theorem TOk.of {t:Te} (h:nodeT t) (hl:∀ x ∈ t.l,TOk x):TOk t:=by
 intro y hy
 rw [nodes_eq,List.mem_cons] at hy
 rcases hy with rfl | hy
 ·exact h
 ·obtain ⟨x,h1,h2⟩:=nodesL_of hy;exact hl x h1 y h2
theorem term_view {u8 i64 u64 str sl:Nat} (ha:isAgg P t=true) (hl:P.cellsOf t=6)
  (h0:fldAt P t 0=some (u8,0,1)) (h1:fldAt P t 1=some (i64,1,1)) (h2:fldAt P t 2=some (u64,2,1)) (h3:fldAt P t 3=some (str,3,1)) (h4:fldAt P t 4=some (i64,4,1)) (h5:fldAt P t 5=some (sl,5,1))
  (k0:kindOf P u8=some .u8) (k1:kindOf P i64=some .i64) (k2:kindOf P u64=some .u64) (k3:strT P str=true) (k5:sliceOf P sl=some t) :
  ∀ {n:Nat} {cs:List FV},OfT P n t cs→∃ x:Te,mkE P t cs=tV x∧TOk x:=by
 intro n
 induction n using Nat.strongRecOn with
 |ind n ih =>
  intro cs h
  cases n with
  |zero=>cases h
  |succ n =>
   have hn:=h.len hl
   have f0:=h.field' 0 h0
   have f1:=h.field' 1 h1
   have f2:=h.field' 2 h2
   have f3:=h.field' 3 h3
   have f4:=h.field' 4 h4
   have f5:=h.field' 5 h5
   match cs,hn with
   |[a0,a1,a2,a3,a4,a5],_ =>
    obtain ⟨k,e0,g0⟩:=f0.int k0
    obtain ⟨w,e1,g1⟩:=f1.int k1
    obtain ⟨b,e2,g2⟩:=f2.int k2
    obtain ⟨s,e3,g3⟩:=f3.str k3
    obtain ⟨lo,e4,g4⟩:=f4.int k1
    cases n with
    |zero=>cases f5
    |succ n =>
     obtain ⟨css,e5,g5,hc⟩:=f5.slice' k5
     obtain ⟨l,m1,m2,m3⟩:=list_view (css:=css) (mk:=mkE P t) (enc:=tV) (good:=TOk) fun c hcc=>ih n (by omega) (hc c hcc)
     simp only [List.drop_succ_cons,List.drop_zero,List.take_succ_cons,List.take_zero,List.cons.injEq,and_true] at e0 e1 e2 e3 e4 e5
     subst e0 e1 e2 e3 e4 e5
     refine ⟨.mk k w b s lo false l,?_,TOk.of ⟨?_,?_,?_,?_,?_,?_⟩ m3⟩
     ·rw [mkE_agg ha,tV_eq,m1];rfl
     ·simp only [Tm'.k];simp [IntKind.min,IntKind.max,IntKind.signed,IntKind.bits] at g0;omega
     ·simp only [Tm'.w];simp [IntKind.min,IntKind.max,IntKind.signed,IntKind.bits] at g1;omega
     ·simp only [Tm'.b];simp [IntKind.min,IntKind.max,IntKind.signed,IntKind.bits] at g2;omega
     ·simp only [Tm'.s];simpa [maxLen] using g3
     ·simp only [Tm'.lo];simp [IntKind.min,IntKind.max,IntKind.signed,IntKind.bits] at g4;omega
     ·simp only [Tm'.l];rw [m2];simpa [maxLen] using g5
end
end Go.FI
