/- The variables of a term in the order of their names. -/
import Derived.Test.YtkobnfjeehnhlaaGreatDoorFISort
import Derived.Test.YtkobnfjeehnhlaaGreatDoorFIRep
set_option linter.all false
namespace Go.FI
open Go.Sort (PermIn SortedIn Below SWO)
theorem cb_irr (a:List UInt8):Go.Lib.compareBytes a a=0:=by
 induction a with
 |nil=>rfl
 |cons x a ih=>simp [Go.Lib.compareBytes,UInt8.lt_irrefl,ih]
theorem cb_trans:∀ a b c:List UInt8,Go.Lib.compareBytes a b < 0→Go.Lib.compareBytes b c < 0→Go.Lib.compareBytes a c < 0:=by
 intro a
 induction a with
 |nil=>intro b c h1 h2;cases b<;>cases c<;>simp_all [Go.Lib.compareBytes]
 |cons x a ih =>
  intro b c h1 h2
  cases b with
  |nil=>simp [Go.Lib.compareBytes] at h1
  |cons y b =>
   cases c with
   |nil=>simp [Go.Lib.compareBytes] at h2
   |cons z c =>
    simp only [Go.Lib.compareBytes] at h1 h2 ⊢
    have t1:x < y→y < z→x < z:=UInt8.lt_trans
    have e1:¬ x < y→¬ y < x→x=y:=fun p q=>UInt8.le_antisymm (UInt8.not_lt.1 q) (UInt8.not_lt.1 p)
    have e2:¬ y < z→¬ z < y→y=z:=fun p q=>UInt8.le_antisymm (UInt8.not_lt.1 q) (UInt8.not_lt.1 p)
    by_cases c1:x < y
    ·by_cases c2:y < z
     ·simp [t1 c1 c2]
     ·by_cases c3:z < y
      ·simp [c2,c3] at h2
      ·have:=e2 c2 c3;subst this;simp [c1]
    ·by_cases c2:y < x
     ·simp [c1,c2] at h1
     ·have:=e1 c1 c2;subst this
      by_cases c3:x < z
      ·simp [c3]
      ·by_cases c4:z < x
       ·simp [c3,c4] at h2
       ·have:=e2 c3 c4;subst this
        simp only [c1,if_false,UInt8.lt_irrefl] at h1 h2 ⊢
        exact ih b c h1 h2
theorem cb_tri:∀ a b:List UInt8,Go.Lib.compareBytes a b < 0 ∨ Go.Lib.compareBytes b a < 0 ∨ a=b:=by
 intro a
 induction a with
 |nil=>intro b;cases b<;>simp [Go.Lib.compareBytes]
 |cons x a ih =>
  intro b
  cases b with
  |nil=>simp [Go.Lib.compareBytes]
  |cons y b =>
   simp only [Go.Lib.compareBytes]
   by_cases c1:x < y
   ·simp [c1]
   ·by_cases c2:y < x
    ·simp [c1,c2]
    ·have:=UInt8.le_antisymm (UInt8.not_lt.1 c2) (UInt8.not_lt.1 c1)
     subst this
     rcases ih b with h | h | h<;>simp [UInt8.lt_irrefl,h]
theorem swoB:SWO ltB where
 irrefl:=fun x=>by simp [ltB,cb_irr]
 trans:=fun x y z h1 h2=>by
  simp only [ltB,decide_eq_true_eq] at h1 h2 ⊢
  exact cb_trans _ _ _ h1 h2
 ntrans:=fun x y z h1 h2=>by
  simp only [ltB,decide_eq_false_iff_not] at h1 h2 ⊢
  intro h3
  rcases cb_tri x.1 y.1 with h | h | h
  ·exact h1 h
  ·exact h2 (cb_trans _ _ _ h h3)
  ·rw [h] at h3;exact h2 h3
theorem cb_lt:∀ a b:List UInt8,Go.Lib.compareBytes a b < 0 ↔ Op.bytesLess a b=true:=by
 intro a
 induction a with
 |nil=>intro b;cases b<;>simp [Go.Lib.compareBytes,Op.bytesLess]
 |cons x a ih =>
  intro b
  cases b with
  |nil=>simp [Go.Lib.compareBytes,Op.bytesLess]
  |cons y b =>
   simp only [Go.Lib.compareBytes,Op.bytesLess]
   by_cases h1:x < y
   ·simp [h1]
   ·by_cases h2:y < x
    ·simp [h1,h2]
     intro h;subst h;exact absurd h2 (UInt8.lt_irrefl _)
    ·have h3:y=x:=UInt8.le_antisymm (UInt8.not_lt.1 h1) (UInt8.not_lt.1 h2)
     subst h3
     simp [ih b]
theorem ltB_less {p q:Bd}:ltB p q=Op.bytesLess p.1 q.1:=by
 unfold ltB
 rw [Bool.eq_iff_iff,decide_eq_true_eq];exact cb_lt _ _
theorem less_irr (a:List UInt8):Op.bytesLess a a=false:=by
 cases h:Op.bytesLess a a with
 |false=>rfl
 |true=>have:=(cb_lt a a).2 h;rw [cb_irr] at this;omega
theorem less_trans {a b c:List UInt8} (h1:Op.bytesLess a b=true) (h2:Op.bytesLess b c=true):Op.bytesLess a c=true:=(cb_lt _ _).1 (cb_trans _ _ _ ((cb_lt _ _).2 h1) ((cb_lt _ _).2 h2))
theorem less_tri (a b:List UInt8):Op.bytesLess a b=true ∨ Op.bytesLess b a=true ∨ a=b:=by
 rcases cb_tri a b with h | h | h
 ·exact .inl ((cb_lt _ _).1 h)
 ·exact .inr (.inl ((cb_lt _ _).1 h))
 ·exact .inr (.inr h)
theorem less_asym {a b:List UInt8} (h:Op.bytesLess a b=true):Op.bytesLess b a=false:=by
 cases h2:Op.bytesLess b a with
 |false=>rfl
 |true=>have:=less_trans h h2;rw [less_irr] at this;cases this
def SL (l:Env0):Prop:=l.Pairwise fun p q=>Op.bytesLess p.1 q.1=true
theorem SL.nodup {l:Env0} (h:SL l):l.Nodup:=List.Pairwise.imp (fun {a b} hab e=>by subst e;rw [less_irr] at hab;cases hab) h
theorem SL.unique {l m:Env0} (h1:SL l) (h2:SL m) (h:∀ p,p ∈ l ↔ p ∈ m):l=m :=
 List.Perm.eq_of_pairwise (fun a b _ _ hab hba=>by rw [less_asym hab] at hba;cases hba) h1 h2 ((List.perm_ext_iff_of_nodup h1.nodup h2.nodup).2 h)
def ND (l:Env0):Prop:=l.Pairwise fun p q=>p.1 ≠ q.1
theorem lkE_none {s:List UInt8}:∀ {en:Env0},lkE en s=none→∀ p ∈ en,p.1 ≠ s:=by
 intro en
 induction en with
 |nil=>intro _ p hp;cases hp
 |cons q en ih =>
  obtain ⟨n,w⟩:=q
  intro h p hp
  simp only [lkE] at h
  split at h
  ·cases h
  ·rename_i hn
   rcases List.mem_cons.1 hp with rfl | hp
   ·exact fun e=>hn e.symm
   ·exact ih h p hp
theorem foldE_nd:∀ (xs:List Te) (en en':Env0),ND en→foldE varG en xs=.inl en'→ND en':=by
 intro xs
 induction xs with
 |nil=>intro en en' h e;simp only [foldE] at e;cases e;exact h
 |cons x xs ih =>
  intro en en' h e
  simp only [foldE] at e
  cases hg:varG en x with
  |inr u=>rw [hg] at e;cases e
  |inl en1 =>
   rw [hg] at e
   refine ih en1 en' ?_ e
   unfold varG at hg
   split at hg
   ·split at hg
    ·rename_i hl
     cases hg
     refine List.pairwise_append.2 ⟨h,List.pairwise_singleton _ _,fun a ha b hb=>?_⟩
     rw [List.mem_singleton] at hb;subst hb
     exact lkE_none hl a ha
    ·split at hg
     ·cases hg;exact h
     ·cases hg
   ·cases hg;exact h
theorem varsE_nd {t:Te} {en:Env0} (h:varsE t=.inl en):ND en:=foldE_nd _ _ _ List.Pairwise.nil h
theorem lkE_mem {s:List UInt8} {w:Int}:∀ {en:Env0},ND en→(lkE en s=some w ↔ (s,w) ∈ en):=by
 intro en
 induction en with
 |nil=>intro _;simp [lkE]
 |cons q en ih =>
  obtain ⟨n,v⟩:=q
  intro h
  have h1:=List.pairwise_cons.1 h
  simp only [lkE,List.mem_cons,Prod.mk.injEq]
  split
  ·rename_i e;subst e
   constructor
   ·intro e;cases e;exact .inl ⟨rfl,rfl⟩
   ·rintro (⟨_,rfl⟩ | hm)
    ·rfl
    ·exact (h1.1 _ hm rfl).elim
  ·rename_i e
   rw [ih h1.2]
   constructor
   ·exact .inr
   ·rintro (⟨e1,_⟩ | hm)
    ·exact absurd e1 e
    ·exact hm
theorem varsE_mem {t:Te} {en:Env0} (h:varsE t=.inl en) (p:List UInt8 × Int):p ∈ en ↔ p ∈ varList t:=by
 rw [← (varsE_in h).2 p.1 p.2,lkE_mem (varsE_nd h)]
theorem SL_sorted {n:Nat} {d d':Array Bd} (hn:d.size=n) (hn':d'.size=n) (hp:PermIn 0 n d d') (hs:SortedIn ltB 0 n d') (hd:ND d.toList):SL d'.toList∧∀ p,p ∈ d'.toList ↔ p ∈ d.toList:=by
 have hperm:d'.toList.Perm d.toList:=by
  have:=hp.2.2
  rw [← hn] at this
  have e1:d.extract 0 d.size=d:=by simp
  have e2:d'.extract 0 d.size=d':=by rw [hn,← hn'];simp
  rwa [e1,e2] at this
 have hnd:ND d'.toList:=List.Perm.pairwise hperm.symm hd (fun h=>Ne.symm h)
 refine ⟨List.pairwise_iff_getElem.2 fun i j hi hj hij=>?_,fun p=>hperm.mem_iff⟩
 have h1:=hs i j (Nat.zero_le _) hij (by rw [← hn'];simpa using hj)
 have h2:=List.pairwise_iff_getElem.1 hnd i j hi hj hij
 have ei:d'[i]! = d'.toList[i]:=by
  have:i < d'.size:=by simpa using hi
  simp [this]
 have ej:d'[j]! = d'.toList[j]:=by
  have:j < d'.size:=by simpa using hj
  simp [this]
 rw [ei,ej,ltB_less] at h1
 rcases less_tri d'.toList[i].1 d'.toList[j].1 with h | h | h
 ·exact h
 ·rw [h] at h1;cases h1
 ·exact absurd h h2
def posE (n:List UInt8):Env0→Nat
 |[]=>0
 |q::r=>if Op.bytesLess q.1 n=true then posE n r + 1 else 0
theorem posE_le (n:List UInt8):∀ l:Env0,posE n l ≤ l.length:=by
 intro l
 induction l with
 |nil=>exact Nat.le_refl _
 |cons q l ih=>simp only [posE];split<;>simp only [List.length_cons]<;>omega
def stepE (l:Env0) (p:List UInt8 × Int):Env0 :=
 if posE p.1 l=l.length ∨ (l.getD (posE p.1 l) ([],0)).1 ≠ p.1 then l.take (posE p.1 l) ++ [p] ++ l.drop (posE p.1 l) else l
theorem stepE_cons (q p : List UInt8 × Int) (l : Env0) : stepE (q :: l) p = if Op.bytesLess q.1 p.1 = true then q :: stepE l p else if q.1 = p.1 then q :: l else p :: q :: l := by
  unfold stepE
  by_cases h : Op.bytesLess q.1 p.1 = true
  · simp only [posE, if_pos h, List.length_cons, List.take_succ_cons, List.drop_succ_cons, Nat.add_right_cancel_iff, List.getD_cons_succ]
    split <;> simp
  · simp only [posE, if_neg h, List.length_cons, List.take_zero, List.drop_zero, List.getD_cons_zero]
    by_cases e : q.1 = p.1
    · rw [if_neg (by rintro (h | h); · omega
                     · exact h e), if_pos e]
    · rw [if_pos (.inr e), if_neg e]; rfl
theorem stepE_mem {p:List UInt8 × Int}:∀ {l:Env0},SL l→(∀ w,(p.1,w) ∈ l→w=p.2)→∀ q,q ∈ stepE l p ↔ q ∈ l ∨ q=p:=by
 intro l
 induction l with
 |nil=>intro _ _ q;simp [stepE,posE]
 |cons r l ih =>
  intro h hc q
  have h1:=List.pairwise_cons.1 h
  rw [stepE_cons]
  split
  ·rw [List.mem_cons,ih h1.2 (fun w hw=>hc w (List.mem_cons_of_mem _ hw)),List.mem_cons,or_assoc]
  ·split
   ·rename_i e
    have:r=p:=by
     obtain ⟨a,b⟩:=r
     have:=hc b (by rw [← e];simp)
     obtain ⟨c,d⟩:=p
     simp only at e this;rw [e,this]
    constructor
    ·exact .inl
    ·rintro (hq | rfl)
     ·exact hq
     ·rw [← this];simp
   ·simp only [List.mem_cons]
    constructor
    ·rintro (h | h | h)
     ·exact .inr h
     ·exact .inl (.inl h)
     ·exact .inl (.inr h)
    ·rintro ((h | h) | h)
     ·exact .inr (.inl h)
     ·exact .inr (.inr h)
     ·exact .inl h
theorem stepE_sub {p:List UInt8 × Int}:∀ {l:Env0},∀ q,q ∈ stepE l p→q ∈ l ∨ q=p:=by
 intro l
 induction l with
 |nil=>intro q;simp [stepE,posE]
 |cons r l ih =>
  intro q
  rw [stepE_cons]
  split
  ·simp only [List.mem_cons]
   rintro (h | h)
   ·exact .inl (.inl h)
   ·rcases ih q h with h | h
    ·exact .inl (.inr h)
    ·exact .inr h
  ·split
   ·exact .inl
   ·simp only [List.mem_cons]
    rintro (h | h | h)
    ·exact .inr h
    ·exact .inl (.inl h)
    ·exact .inl (.inr h)
theorem stepE_SL {p:List UInt8 × Int}:∀ {l:Env0},SL l→SL (stepE l p):=by
 intro l
 induction l with
 |nil=>intro _;simp [stepE,posE,SL]
 |cons r l ih =>
  intro h
  have h1:=List.pairwise_cons.1 h
  rw [stepE_cons]
  split
  ·rename_i hl
   refine List.pairwise_cons.2 ⟨fun q hq=>?_,ih h1.2⟩
   rcases stepE_sub q hq with hq | rfl
   ·exact h1.1 q hq
   ·exact hl
  ·rename_i hl
   split
   ·exact h
   ·rename_i e
    have hpr:Op.bytesLess p.1 r.1=true:=by
     rcases less_tri r.1 p.1 with h | h | h
     ·exact absurd h hl
     ·exact h
     ·exact absurd h e
    refine List.pairwise_cons.2 ⟨fun q hq=>?_,h⟩
    rcases List.mem_cons.1 hq with rfl | hq
    ·exact hpr
    ·exact less_trans hpr (h1.1 q hq)
theorem stepE_len (l:Env0) (p:List UInt8 × Int):(stepE l p).length ≤ l.length + 1:=by
 unfold stepE
 have:=posE_le p.1 l
 split
 ·simp only [List.length_append,List.length_take,List.length_drop,List.length_cons,List.length_nil];omega
 ·omega
def insE:Env0→Env0→Env0
 |out,[]=>out
 |out,p::r=>insE (stepE out p) r
theorem insE_spec:∀ (L out M:Env0),SL out→(∀ p,p ∈ out ↔ p ∈ M)→Cons (M ++ L)→SL (insE out L)∧∀ p,p ∈ insE out L ↔ p ∈ M ++ L:=by
 intro L
 induction L with
 |nil=>intro out M h1 h2 _;simp only [insE,List.append_nil];exact ⟨h1,h2⟩
 |cons p L ih =>
  intro out M h1 h2 hc
  have hcp:∀ w,(p.1,w) ∈ out→w=p.2:=fun w hw=>hc p.1 w p.2 (by simp [(h2 _).1 hw]) (by simp)
  have:=ih (stepE out p) (M ++ [p]) (stepE_SL h1) (fun q=>by rw [stepE_mem h1 hcp,h2,List.mem_append,List.mem_singleton]) (by simpa using hc)
  simp only [insE]
  simpa using this
theorem vars_one {t:Te} {en L:Env0} (h:varsE t=.inl en) (h1:SL L) (h2:∀ p,p ∈ L ↔ p ∈ en):L=insE [] (varList t):=by
 obtain ⟨q1,q2⟩:=insE_spec (varList t) [] [] List.Pairwise.nil (fun _=>Iff.rfl) (by simpa using (varsE_in h).1)
 exact SL.unique h1 q1 fun p=>by rw [h2,varsE_mem h,q2];simp
def bd0 (p:List UInt8 × Int):FV:=.agg [.str p.1,.int .i64 p.2,.int .u64 0]
theorem pu_b0 (l:Env0):pures (l.map bd0)=true:=pures_map (fun _=>rfl) _
theorem lo_b0 (b:Nat) (l:Env0):lows b (l.map bd0)=true:=lows_map (fun _=>rfl) _
theorem al_b0 (l:Env0):(l.map bd0).all FV.ok=true:=all_map (fun _=>rfl) _
theorem cl_b0 (l:Env0):((l.map bd0).all fun v=>v.cells.length == 3)=true:=all_map (fun _=>rfl) _
theorem gd_b0 {l:Env0} {i:Nat} {d:FV} (h:i < l.length):(l.map bd0).getD i d=.agg [.str (l.getD i ([],0)).1,.int .i64 (l.getD i ([],0)).2,.int .u64 0]:=getD_map _ h
theorem LAWSb:type_of% (And.intro pu_Ts <| And.intro lo_Ts <| And.intro al_Ts <| And.intro cl_Ts <| And.intro @gd_T <| And.intro @ge_T <| And.intro pu_b0 <| And.intro lo_b0 <| And.intro al_b0 <| And.intro cl_b0 @gd_b0):=And.intro pu_Ts <| And.intro lo_Ts <| And.intro al_Ts <| And.intro cl_Ts <| And.intro @gd_T <| And.intro @ge_T <| And.intro pu_b0 <| And.intro lo_b0 <| And.intro al_b0 <| And.intro cl_b0 @gd_b0
end Go.FI
