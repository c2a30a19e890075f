/- Code,in the machine. -/
import Derived.Test.YtkobnfjeehnhlaaGreatDoorFIAny
import Derived.Test.YtkobnfjeehnhlaaGreatDoorFILoop
import Derived.Test.YtkobnfjeehnhlaaGreatDoorFIPan
set_option linter.all false
namespace Go.FI
open Go.RowKit
variable [Sys]
def psOf (ops:Array Oper):List Nat:=ops.toList.foldl (fun acc o=>acc ++ [o.after.toList.foldl (edgeMask acc) 0]) []
def okPs (nt:Nat) (ps ct:List Nat):Bool:=(ps ++ ct).Nodup && (ps ++ ct).all (· < nt)
def okC (P:Program) (cm:Nat→Nat) (rdO:Nat→Option Rd) (nt:Nat):Code→C→Bool
 |.skip,.sk=>true
 |.refuse _,.bad=>true
 |.label l,.lb l'=>l == l'
 |.scope c,.sc d=>okC P cm rdO nt c d
 |.goto l,.go l'=>l == l'
 |.region _ ops draw,.rg d gs _=>match draw,d with
  |false,none=>okGs P ops nt ops.toList gs
  |true,some pm=>okDraw P nt cm ops gs pm (psOf ops)
  |_,_=>false
 |.region _ ops true,.rp pm c kp gs _=>okDraw P nt cm ops gs pm (psOf ops) && okPan cm gs pm (psOf ops) c kp
 |.region _ ops false,.rq gs _=>okGPs P ops nt ops.toList gs
 |.seq a b,.sq a' b'=>okC P cm rdO nt a a' && okC P cm rdO nt b b'
 |.cond c a b,.cd x a' b'=>okX c x && okC P cm rdO nt a a' && okC P cm rdO nt b b'
 |.block i c,.bl j d=>i == j && okC P cm rdO nt c d
 |.loop c,.lp _ d=>okC P cm rdO nt c d
 |.exit i,.xt j=>i == j
 |.ret,.rt=>true
 |.rangeFunc g ps asg body,.rf f x ct=>okX g x && decide (RB ≤ f) && (match rdO f with
  |some d=>ps.toList == d.ps && ct == d.ct && okPs nt d.ps d.ct && okC P cm rdO nt asg d.asg && okC P cm rdO nt body d.body
  |none=>false)
 |_,_=>false
def RkOf (P:Program) (cm:Nat→Nat) (rdO:Nat→Option Rd) (f:Nat) (r:Loop) (ct:List Nat):Prop :=
 ∃ d,rdO f=some d∧d.ct=ct∧r.params.toList=d.ps∧okPs r.tmps.size d.ps d.ct=true∧okC P cm rdO r.tmps.size r.assign d.asg=true∧okC P cm rdO r.tmps.size r.body d.body=true
inductive Todo (P:Program) (cm:Nat→Nat) (rdO:Nat→Option Rd) (nt:Nat) (K0:List Item):List Item→List I→Prop
 |nil:Todo P cm rdO nt K0 K0 []
 |code (c:Code) (d:C) (k:List Item) (l:List I) (h:okC P cm rdO nt c d=true) (hs:Todo P cm rdO nt K0 k l):Todo P cm rdO nt K0 (.code c::k) (.code d::l)
 |inB (id:Nat) (k:List Item) (l:List I) (hs:Todo P cm rdO nt K0 k l):Todo P cm rdO nt K0 (.inBlock id::k) (.inB id::l)
 |inL (c:Code) (d:C) (t:Option Nat) (k:List Item) (l:List I) (h:okC P cm rdO nt c d=true) (hs:Todo P cm rdO nt K0 k l):Todo P cm rdO nt K0 (.inLoop c::k) (.inL t d::l)
 |inS (c:Code) (d:C) (k:List Item) (l:List I) (h:okC P cm rdO nt c d=true) (hs:Todo P cm rdO nt K0 k l):Todo P cm rdO nt K0 (.inScope c::k) (.inS d::l)
 |beg (id:Nat) (k:List Item) (l:List I) (hs:Todo P cm rdO nt K0 k l):Todo P cm rdO nt K0 (.beginRound::k) (.beg id::l)
theorem exit_todo {P:Program} {cm:Nat→Nat} {rdO:Nat→Option Rd} {nt:Nat} {K0:List Item} (id:Nat) {k:List Item} {l:List I} (h:Todo P cm rdO nt K0 k l) :
  (∀ l',FI.exitTo id l=some l'→∃ k',Go.exitTo id k=some k'∧Todo P cm rdO nt K0 k' l')∧(FI.exitTo id l=none→Go.exitTo id k=Go.exitTo id K0):=by
 induction h with
 |nil=>exact ⟨fun l' h=>by simp [FI.exitTo] at h,fun _=>rfl⟩
 |code c d k l h hs ih=>exact ih
 |inL c d t k l h hs ih=>exact ih
 |beg id k l hs ih=>exact ih
 |inS c d k l h hs ih=>exact ih
 |inB j k l hs ih =>
  simp only [FI.exitTo,Go.exitTo]
  by_cases e:j=id
  ·subst e
   simp only [if_true,beq_self_eq_true]
   exact ⟨fun l' h=>by cases h;exact ⟨k,rfl,hs⟩,fun h=>by cases h⟩
  ·have:(j == id)=false:=by simpa using e
   rw [if_neg e,this]
   exact ih
theorem exit_mem (id:Nat):∀ (l l':List I),FI.exitTo id l=some l'→∀ x ∈ l',x ∈ l:=by
 intro l
 induction l with
 |nil=>intro l' h;simp [FI.exitTo] at h
 |cons y l ih =>
  intro l' h x hx
  cases y with
  |inB j =>
   simp only [FI.exitTo] at h
   split at h
   ·cases h;exact List.mem_cons_of_mem _ hx
   ·exact List.mem_cons_of_mem _ (ih _ h x hx)
  |code c=>exact List.mem_cons_of_mem _ (ih _ h x hx)
  |inL t c=>exact List.mem_cons_of_mem _ (ih _ h x hx)
  |beg i=>exact List.mem_cons_of_mem _ (ih _ h x hx)
  |inS c=>exact List.mem_cons_of_mem _ (ih _ h x hx)
theorem findLb_ok {P:Program} {cm:Nat→Nat} {rdO:Nat→Option Rd} {nt:Nat} (t:Nat):∀ (c:Code) (d:C),okC P cm rdO nt c d=true →
  (∀ e,findLb d t=some e→∃ q,findLabel c t=some q∧okC P cm rdO nt q e=true)∧(findLb d t=none→findLabel c t=none):=by
 intro c
 induction c with
 |seq a b iha ihb =>
  intro d hok
  cases d<;>simp only [okC,Bool.false_eq_true,Bool.and_eq_true] at hok
  rename_i a' b'
  obtain ⟨a1,a2⟩:=iha _ hok.1
  obtain ⟨b1,b2⟩:=ihb _ hok.2
  simp only [findLb,findLabel]
  cases hx:findLb a' t with
  |some e =>
   obtain ⟨q,h1,h2⟩:=a1 e hx
   simp only [h1]
   exact ⟨fun e' he=>by cases he;exact ⟨_,rfl,by simp [okC,h2,hok.2]⟩,fun h=>by cases h⟩
  |none =>
   simp only [a2 hx]
   exact ⟨b1,b2⟩
 |label l =>
  intro d hok
  cases d<;>simp only [okC,Bool.false_eq_true,beq_iff_eq] at hok
  subst hok
  simp only [findLb,findLabel]
  by_cases e:l=t
  ·subst e
   simp [okC]
  ·have:(l == t)=false:=by simpa using e
   rw [if_neg e,this]
   exact ⟨fun e he=>(by cases he),fun _=>(by simp)⟩
 |_ =>
  intro d hok
  cases d<;>(try simp only [okC,Bool.false_eq_true] at hok)<;>exact ⟨fun e he=>by simp [findLb] at he,fun _=>rfl⟩
theorem goto_todo {P:Program} {cm:Nat→Nat} {rdO:Nat→Option Rd} {nt:Nat} {K0:List Item} (t:Nat) {k:List Item} {l:List I} (h:Todo P cm rdO nt K0 k l) :
  (∀ l',FI.goIn t l=some l'→∃ k',Go.gotoIn t k=some k'∧Todo P cm rdO nt K0 k' l')∧(FI.goIn t l=none→Go.gotoIn t k=Go.gotoIn t K0):=by
 induction h with
 |nil=>exact ⟨fun l' h=>by simp [FI.goIn] at h,fun _=>rfl⟩
 |code c d k l h hs ih=>exact ih
 |inL c d t k l h hs ih=>exact ih
 |beg id k l hs ih=>exact ih
 |inB j k l hs ih=>exact ih
 |inS c d k l h hs ih =>
  obtain ⟨h1,h2⟩:=findLb_ok t c d h
  simp only [FI.goIn,Go.gotoIn]
  cases hx:findLb d t with
  |some e =>
   obtain ⟨q,h3,h4⟩:=h1 e hx
   simp only [h3]
   exact ⟨fun l' he=>by cases he;exact ⟨_,rfl,.code _ _ _ _ h4 (.inS _ _ _ _ h hs)⟩,fun h=>by cases h⟩
  |none =>
   simp only [h2 hx]
   exact ih
theorem go_mem (t:Nat):∀ (l l':List I),FI.goIn t l=some l'→∀ x ∈ l',(∃ c,x=.code c) ∨ x ∈ l:=by
 intro l
 induction l with
 |nil=>intro l' h;simp [FI.goIn] at h
 |cons y l ih =>
  intro l' h x hx
  cases y with
  |inS c =>
   simp only [FI.goIn] at h
   split at h
   ·cases h
    rcases List.mem_cons.1 hx with hx | hx
    ·exact .inl ⟨_,hx⟩
    ·exact .inr hx
   ·rcases ih _ h x hx with q | q
    ·exact .inl q
    ·exact .inr (List.mem_cons_of_mem _ q)
  |code c=>rcases ih _ h x hx with q | q;exact .inl q;exact .inr (List.mem_cons_of_mem _ q)
  |inL t c=>rcases ih _ h x hx with q | q;exact .inl q;exact .inr (List.mem_cons_of_mem _ q)
  |beg i=>rcases ih _ h x hx with q | q;exact .inl q;exact .inr (List.mem_cons_of_mem _ q)
  |inB i=>rcases ih _ h x hx with q | q;exact .inl q;exact .inr (List.mem_cons_of_mem _ q)
def Base (β:Nat) (l:List I):Prop:=∀ b c,I.inL (some b) c ∈ l→β ≤ b
def gcut (g:Gh) (b:Nat):Gh:=⟨fun i=>if i < b then g.κ i else none,g.Z⟩
def Begs (β:Nat) (g:Gh) (b:Frame) (l:List I):Prop:=∀ id,I.beg id ∈ l→id < β∧∃ q loc,b.roundOf=some q∧g.κ id=some loc∧loc.blk=some q∧loc.mp=true
theorem Begs.sub {β:Nat} {g:Gh} {b:Frame} {l l':List I} (h:Begs β g b l) (hs:∀ id,I.beg id ∈ l'→I.beg id ∈ l):Begs β g b l':=fun id hi=>h id (hs id hi)
theorem Begs.le {β:Nat} {g g1:Gh} {w w1:World} {b:Frame} {l:List I} (h:Begs β g b l) (hg:GLe g g1 w w1):Begs β g1 b l:=fun id hi=>by
 obtain ⟨h1,q,loc,h2,h3,h4,h5⟩:=h id hi
 obtain ⟨loc',k1,_,_,k2⟩:=hg.k id loc h3
 have:=k2 (.inr h5)
 subst this
 exact ⟨h1,q,loc',h2,k1,h4,h5⟩
theorem Begs.cut {β bb:Nat} {g:Gh} {b:Frame} {l:List I} (h:Begs β g b l) (hb:β ≤ bb):Begs β (gcut g bb) b l:=fun id hi=>by
 obtain ⟨h1,q,loc,h2,h3,h4,h5⟩:=h id hi
 exact ⟨h1,q,loc,h2,by simp [gcut,h3];omega,h4,h5⟩
theorem Rnd.cut {β bb:Nat} {g:Gh} {b:Frame} (h:Rnd β g b) (hb:β ≤ bb):Rnd β (gcut g bb) b:=fun q hq=>by
 obtain ⟨id,loc,r,h1,h2,h3,h4,h5⟩:=h q hq
 exact ⟨id,loc,r,h1,by simp [gcut,h2];omega,h3,h4,h5⟩
theorem stepR_scope {P:Program} {b:Frame} {a:Act} {k:List Item} {cs:List Frame} {w:World} {c:Code}:step P (lone (b.atR a (.code (.scope c)::k)) cs w)=.next (lone (b.atR a (.code c::.inScope c::k)) cs w) :=
 step_lone_go (by simp [stepG,stepG.exec,Frame.atR])
theorem stepR_inScope {P:Program} {b:Frame} {a:Act} {k:List Item} {cs:List Frame} {w:World} {c:Code}:step P (lone (b.atR a (.inScope c::k)) cs w)=.next (lone (b.atR a k) cs w) :=
 step_lone_go (by simp [stepG,stepG.exec,Frame.atR])
def EndF (K0:List Item) (b:Frame) (a':Act) (K':List Item) (fr:Frame) (g':Gh) (w':World):Ex→Prop
 |.fin=>K'=K0∧fr=b.atR a' K'
 |.ret=>(∃ r,K'=.code .ret::r)∧fr=b.atR a' K'
 |.xt id=>(∃ r,K'=.code (.exit id)::r∧Go.exitTo id r=Go.exitTo id K0)∧fr=b.atR a' K'
 |.pan u=>∃ x,R g' w' u x∧fr={ b.atR a' K' with mode:=.panicking [{ v:=x,recovered:=false }] }
section
variable {P:Program} {cm:Nat→Nat} {nt:Nat} {cal:Call} {B:Nat} {w0:World} {r:Option Nat} {K0:List Item}
theorem room_fb (r:Option Nat) (n:Nat):(fb r).room n:=fun _ h=>by simp [fb,Fence.wide] at h
theorem RT.keep {g:Gh} {w:World} {m:Tm} {a:Act} (hm:RT g w m a) (ts:List Nat):RT g w (keepOf m ts) a:=by
 refine ⟨?_,hm.gl⟩
 intro t
 by_cases h:t ∈ ts
 ·rw [gt_keepOf _ _ _ h];exact hm t
 ·rw [gt_keepOf_not _ _ _ h];exact .undef _
theorem hget_cutH (b:Nat):∀ (h:Heap) (i:Nat),hget (cutH b h) i=if i < b then hget h i else none:=by
 intro h
 induction h with
 |nil=>intro i;simp [cutH,hget]
 |cons p r ih =>
  obtain ⟨j,o⟩:=p
  intro i
  simp only [cutH]
  split
  ·rename_i hj
   simp only [hget]
   by_cases e:j=i
   ·subst e;simp [hj]
   ·rw [if_neg e,if_neg e];exact ih i
  ·rename_i hj
   rw [ih]
   by_cases hi:i < b
   ·have e:j ≠ i:=fun e=>hj (by omega)
    simp [hi,hget,e]
   ·simp [hi]
theorem lows_iff {b:Nat} {vs:List FV}:lows b vs=true ↔ ∀ v ∈ vs,low b v=true:=by
 induction vs with
 |nil=>simp [lows]
 |cons v vs ih=>simp [lows,ih]
theorem low_cells {b:Nat} {v:FV} (h:low b v=true):lows b v.cells=true:=by
 cases v<;>simp_all [FV.cells,lows,low]
theorem lows_flat {b:Nat} {vs:List FV} (h:lows b vs=true):lows b (vs.flatMap FV.cells)=true:=by
 rw [lows_iff] at h ⊢
 intro c hc
 obtain ⟨v,hv,hcv⟩:=List.mem_flatMap.1 hc
 exact lows_iff.1 (low_cells (h v hv)) c hcv
mutual
theorem low_of_pure {b:Nat}:∀ v:FV,pure_ v=true→low b v=true
 |.undef,_ | .bool _,_ | .int _ _,_ | .str _,_ | .nilp,_ | .nilm,_ | .nilf,_ | .nili,_=>rfl
 |.pan _,h=>by simp [pure_] at h
 |.agg cs,h | .tup cs,h | .lst _ cs,h | .eptr cs _,h | .fn _ cs,h=>by simp only [pure_] at h;simp only [low];exact lows_of_pures cs h
 |.ifc _ v,h=>by simp only [pure_] at h;simp only [low];exact low_of_pure v h
 |.ptr ..,h | .sref ..,h | .map _,h | .yl ..,h=>by simp [pure_] at h
theorem lows_of_pures {b:Nat}:∀ vs:List FV,pures vs=true→lows b vs=true
 |[],_=>rfl
 |v::r,h=>by simp only [pures,Bool.and_eq_true] at h;simp only [lows,Bool.and_eq_true];exact ⟨low_of_pure v h.1,lows_of_pures r h.2⟩
end
mutual
theorem R.cut {g:Gh} {w:World} {b:Nat}:∀ {v:FV} {x:Value},R g w v x→low b v=true→R (gcut g b) w v x
 |_,_,.undef v,_=>.undef v
 |_,_,.bool b,_=>.bool b
 |_,_,.int k n,_=>.int k n
 |_,_,.str s,_=>.str s
 |_,_,.agg cs vs hr,h=>.agg cs vs (RL.lcut hr h)
 |_,_,.tup cs vs hr,h=>.tup cs vs (RL.lcut hr h)
 |_,_,.lst0 e a cap he,_=>.lst0 e a cap he
 |_,_,.lst e xs b o es cap cs hne he hle hZ hes hx hr hc,h=>.lst e xs b o es cap cs hne he hle hZ hes hx (RL.lcut hr (lows_flat h)) hc
 |_,_,.eptr cs off b o vs hne hZ hr hc,h=>.eptr cs off b o vs hne hZ (RL.lcut hr h) hc
 |_,_,.ptr id s i off l a hk hs hp,h=>.ptr id s i off l a (by simp [low] at h;simp [gcut,h,hk]) hs hp
 |_,_,.sref es id s off len l a cap hk he hs hle ha hp,h=>.sref es id s off len l a cap (by simp [low] at h;simp [gcut,h,hk]) he hs hle ha hp
 |_,_,.map id b l hk hm hb,h=>.map id b l (by simp [low] at h;simp [gcut,h,hk]) hm hb
 |_,_,.nilp,_=>.nilp
 |_,_,.nilm,_=>.nilm
 |_,_,.fn f cs vs hlt hr,h=>.fn f cs vs hlt (RL.lcut hr h)
 |_,_,.nilf,_=>.nilf
 |_,_,.ifc t v x hr,h=>.ifc t v x (R.cut hr h)
 |_,_,.nili,_=>.nili
 |_,_,.yl f id cs l bb r ct hge hk hm hb hr hf hc,h=>.yl f id cs l bb r ct hge (by simp [low] at h;simp [gcut,h.1,hk]) hm hb hr hf (RL.lcut hc (by simp [low] at h;exact h.2))
theorem RL.lcut {g:Gh} {w:World} {b:Nat}:∀ {vs:List FV} {xs:List Value},RL g w vs xs→lows b vs=true→RL (gcut g b) w vs xs
 |_,_,.nil,_=>.nil
 |_,_,.cons v x vs xs hr hs,h=>.cons v x vs xs (R.cut hr (by simp [lows] at h;exact h.1)) (RL.lcut hs (by simp [lows] at h;exact h.2))
end
theorem low_hget {b:Nat}:∀ {h:Heap},lowHeap b h=true→∀ i o,hget h i=some o→lowObj b o=true:=by
 intro h
 induction h with
 |nil=>intro _ i o ho;simp [hget] at ho
 |cons p r ih =>
  obtain ⟨j,q⟩:=p
  intro hl i o ho
  simp only [lowHeap,Bool.and_eq_true] at hl
  simp only [hget] at ho
  split at ho
  ·cases ho;exact hl.1
  ·exact ih hl.2 i o ho
theorem EnOk.cut {g:Gh} {w:World} {b:Nat} {en:List (FV × FV)} {es:List MapEntry} (he:EnOk g w en es) (hl:(en.all fun e=>low b e.1 && low b e.2)=true):EnOk (gcut g b) w en es:=by
 induction he with
 |nil=>exact .nil
 |cons k v e en es hk hv hs ih =>
  simp only [List.all_cons,Bool.and_eq_true] at hl
  exact .cons k v e en es (hk.cut hl.1.1) (hv.cut hl.1.2) (ih hl.2)
theorem Inv.cut {g:Gh} {h:Heap} {w:World} {b:Nat} (hI:Inv B w0 g h w) (hl:lowHeap b (cutH b h)=true):Inv B w0 (gcut g b) (cutH b h) w:=by
 have hk:∀ i l,(gcut g b).κ i=some l→i < b∧g.κ i=some l:=fun i l h=>by
  simp only [gcut] at h
  split at h
  ·exact ⟨by assumption,h⟩
  ·cases h
 refine ⟨fun i l h1=>?_,fun i o l h1 h2=>?_,fun i j li lj bb h1 h2=>hI.inj i j li lj bb (hk i li h1).2 (hk j lj h2).2,fun i l bb h1=>by rw [hget_cutH,if_pos (hk i l h1).1];exact hI.own i l bb (hk i l h1).2,hI.zlt,hI.below,hI.size⟩
 ·obtain ⟨h2,h3⟩:=hk i l h1
  obtain ⟨o,ho⟩:=hI.dom i l h3
  exact ⟨o,by rw [hget_cutH,if_pos h2];exact ho⟩
 ·have hlo:=low_hget hl i o h1
  obtain ⟨h3,h4⟩:=hk i l h2
  rw [hget_cutH,if_pos h3] at h1
  have:=hI.obj i o l h1 h4
  cases o with
  |row es xs =>
   obtain ⟨k1,k2,k3,k4,k5,k6,k7⟩:=(this:RowOk g w l es xs)
   refine ⟨k1,k2,k3,k4,k5,k6,fun bb hb=>?_⟩
   obtain ⟨arr,t,q1,q2,q3,cs,q4,q5⟩:=k7 bb hb
   exact ⟨arr,t,q1,q2,q3,cs,q4.lcut (lows_flat hlo),q5⟩
  |fro es xs =>
   obtain ⟨⟨k1,k2,k3,k4,k5,k6,k7⟩,k8⟩:=(this:RowOk g w l es xs∧∀ b,l.blk=some b→g.Z b)
   refine ⟨⟨k1,k2,k3,k4,k5,k6,fun bb hb=>?_⟩,k8⟩
   obtain ⟨arr,t,q1,q2,q3,cs,q4,q5⟩:=k7 bb hb
   exact ⟨arr,t,q1,q2,q3,cs,q4.lcut (lows_flat hlo),q5⟩
  |mp en =>
   obtain ⟨k1,k1',bb,es,clock,q1,q2,q3,q4⟩:=(this:MapOk g w l en)
   exact ⟨k1,k1',bb,es,clock,q1,q2,q3.cut hlo,q4⟩
  |lp st jp=>exact (this:LpOk w l st jp)
  |fmp en =>
   obtain ⟨⟨k1,k1',bb,es,clock,q1,q2,q3,q4⟩,k2⟩:=(this:MapOk g w l en∧∀ b,l.blk=some b→g.Z b)
   exact ⟨⟨k1,k1',bb,es,clock,q1,q2,q3.cut hlo,q4⟩,k2⟩
  |mit=>exact ⟨(this:MitOk g w l).hmp,(this:MitOk g w l).hlp,(this:MitOk g w l).hsize,(this:MitOk g w l).hsome⟩
  |sit s pos=>exact (this:SitOk w l s pos)
theorem lowTm_gt {b:Nat}:∀ {m:Tm},lowTm b m=true→∀ t,low b (gt m t)=true:=by
 intro m
 induction m with
 |nil=>intro _ t;simp [gt,low]
 |cons p r ih =>
  obtain ⟨i,v⟩:=p
  intro hl t
  simp only [lowTm,Bool.and_eq_true] at hl
  simp only [gt]
  split
  ·exact hl.1
  ·exact ih hl.2 t
theorem RT.cut {g:Gh} {w:World} {m:Tm} {a:Act} {b:Nat} (hm:RT g w m a) (hl:lowTm b m=true):RT (gcut g b) w m a:=⟨fun t=>(hm t).cut (lowTm_gt hl t),fun k cs hk=>(hm.gl k cs hk).cut (by
  simp only [low]
  exact lows_of_pures _ (Sys.glp k cs hk))⟩
theorem gcut_gcut {g:Gh} {b c:Nat} (h:c ≤ b):gcut (gcut g b) c=gcut g c:=by
 unfold gcut
 congr 1
 funext i
 by_cases hi:i < c
 ·simp [hi,show i < b by omega]
 ·simp [hi]
theorem gcut_fresh {g:Gh} {h:Heap} {w:World} {nx:Nat} (hI:Inv B w0 g h w) (hf:Fresh h nx):gcut g nx=g:=by
 obtain ⟨κ,Z⟩:=g
 unfold gcut
 congr 1
 funext i
 by_cases hi:i < nx
 ·simp [hi]
 ·simp [hi];exact (kNone hI (hf i (by omega))).symm
theorem GLe.cut {g g1:Gh} {w w1:World} (h:GLe g g1 w w1) (b:Nat):GLe (gcut g b) (gcut g1 b) w w1:=by
 refine ⟨h.z,h.heap,fun i l hl=>?_⟩
 simp only [gcut] at hl ⊢
 split at hl
 ·rename_i hi
  obtain ⟨l',k1,k2⟩:=h.k i l hl
  exact ⟨l',by simp [hi,k1],k2⟩
 ·cases hl
theorem Nx.cutTrans {g g1 g2:Gh} {h1 h2:Heap} {w w1 w2:World} {β:Nat} (x:Nx B w0 g g1 h1 w w1) (y:Nx B w0 (gcut g1 β) g2 h2 w1 w2):Nx B w0 (gcut g β) g2 h2 w w2 :=
 ⟨y.inv,(x.le.cut β).trans y.le,fun b hb=>by
  rcases y.z b hb with h | h
  ·exact x.z b h
  ·exact .inr h,Nat.le_trans x.sz y.sz⟩
def Ran (P:Program) (nt:Nat) (K0:List Item) (B:Nat) (w0:World) (b:Frame) (cs:List Frame) (β:Nat) (g:Gh) (h:Heap) (w:World) (a:Act) (K:List Item) (ex:Ex) (m':Tm) (h':Heap):Prop :=
 ∃ g' a' w' K' ms fr,Steps P (lone (b.atR a K) cs w) (lone fr cs w')∧EndF K0 b a' K' fr g' w' ex∧RT g' w' m' a'∧a'.tmps.size=nt∧a'.defers=ms ++ a.defers∧Marks g' w' w.heap.size ms∧Nx B w0 (gcut g β) g' h' w w'∧KNew g g' h h' (fun i=>β ≤ i)
theorem Ran.step {b:Frame} {cs:List Frame} {β:Nat} {g:Gh} {w:World} {a:Act} {K K1:List Item} {ex:Ex} {m':Tm} {h h':Heap} (hs:Steps P (lone (b.atR a K) cs w) (lone (b.atR a K1) cs w))
  (hr:Ran P nt K0 B w0 b cs β g h w a K1 ex m' h'):Ran P nt K0 B w0 b cs β g h w a K ex m' h':=by
 obtain ⟨g',a',w',K',ms,fr,h1,h2⟩:=hr
 exact ⟨g',a',w',K',ms,fr,hs.trans h1,h2⟩
theorem Ran.seq {b:Frame} {cs:List Frame} {β:Nat} {g g1:Gh} {w w1:World} {a a1:Act} {K K1:List Item} {ex:Ex} {m':Tm} {h h1 h':Heap} {ms:List Deferred}
  (hs:Steps P (lone (b.atR a K) cs w) (lone (b.atR a1 K1) cs w1)) (hn:Nx B w0 g g1 h1 w w1) (hk:KNew g g1 h h1 (fun i=>β ≤ i)) (hd:a1.defers=ms ++ a.defers) (hm:Marks g1 w1 w.heap.size ms)
  (hr:Ran P nt K0 B w0 b cs β g1 h1 w1 a1 K1 ex m' h'):Ran P nt K0 B w0 b cs β g h w a K ex m' h':=by
 obtain ⟨g',a',w',K',ms',fr,r1,r2,r3,r4,r5,r5',r6,r7⟩:=hr
 refine ⟨g',a',w',K',ms' ++ ms,fr,hs.trans r1,r2,r3,r4,by rw [r5,hd,List.append_assoc],?_,hn.cutTrans r6,fun i hi hki=>?_⟩
 ·exact Marks.append (Marks.mono (g:=g1) (Nat.le_refl _) r6.le.z r6.le.heap hm) hn.sz (fun d hd r e=>by
   have:=Marks.mem hm hd
   obtain ⟨r',e',hz⟩:=this
   rw [e] at e'
   cases e'
   exact hn.inv.zlt r hz) r5'
 ·have p1:=hk i hi hki
  have p2:=r7 i hi p1.1
  exact ⟨p2.1,p2.2.trans p1.2⟩
theorem Nx.here {g:Gh} {h:Heap} {w:World} (hI:Inv B w0 g h w) (β:Nat):Nx B w0 (gcut g β) g h w w :=
 ⟨hI,⟨fun _ h=>h,fun _ _=>rfl,fun i l hl=>by
  simp only [gcut] at hl
  split at hl
  ·exact ⟨l,hl,Nat.le_refl _,rfl,fun _=>rfl⟩
  ·cases hl⟩,fun _ h=>.inl h,Nat.le_refl _⟩
theorem Ran.here {b:Frame} {cs:List Frame} {β:Nat} {g:Gh} {w:World} {a:Act} {K:List Item} {ex:Ex} {m:Tm} {h:Heap} (he:EndF K0 b a K (b.atR a K) g w ex) (hm:RT g w m a) (hs:a.tmps.size=nt) (hI:Inv B w0 g h w):Ran P nt K0 B w0 b cs β g h w a K ex m h :=
 ⟨g,a,w,K,[],_,.refl _ _,he,hm,hs,rfl,trivial,.here hI β,fun _ _ h=>⟨h,rfl⟩⟩
theorem ev_fn {m:Tm} {a:Act} {g:Gh} {w:World} (hm:RT g w m a) {x:X} {go:Operand} (hok:okX go x=true) {q:Nat} {caps:List FV} (hx:ev m x=.fn q caps):∃ vs:List Value,a.eval go=.func (.func q) #[] vs.toArray∧q < RB∧RL g w caps vs:=by
 have:=R_okX hm hok
 rw [hx] at this
 exact R_fn this
theorem RL_tmps {m:Tm} {a:Act} {g:Gh} {w:World} (hm:RT g w m a):∀ ct:List Nat,RL g w (evs m (ct.map .t)) (ct.map fun t=>a.tmps.getD t undef)
 |[]=>.nil
 |t::ct=>.cons _ _ _ _ (hm t) (RL_tmps hm ct)
theorem RT.defers {g:Gh} {w:World} {m:Tm} {a:Act} (hm:RT g w m a) (ds:List Deferred):RT g w m { a with defers:=ds }:=⟨hm.rt,hm.gl⟩
theorem rf_steps {rdO:Nat→Option Rd} (hrk:∀ f r ct,RkOf P cm rdO f r ct→Sys.rk f r ct) (hcal:CalOk P (np cal)) {go:Operand} {ps:Array Tmp} {asg body:Code} {f:Nat} {x:X} {ct:List Nat} {m:Tm} {h h2:Heap} {nx nx2 q st jp β:Nat} {caps:List FV} {v:FV} (hx:ev m x=.fn q caps)
  (hc:np cal q (.yl f nx (evs m (ct.map .t))::caps) ((nx,.lp 0 0)::h) (nx + 1)=some (v,h2,nx2)) (hst:hget h2 nx=some (.lp st jp)) (hne:st ≠ 1) (hf:Fresh h nx)
  (hgo:okX go x=true) (hge:RB ≤ f) {g:Gh} {w:World} {a:Act} {b:Frame} {cs:List Frame} {k:List Item} (hro:Rnd β g b) (hrd:∀ r:Loop,r.tmps=a.tmps→r.params=ps→r.assign=asg→r.body=body→RkOf P cm rdO f r ct)
  (hm:RT g w m a) (hI:Inv B w0 g h w) :
  ∃ g1 a1 w1 mk,Steps P (lone (b.atR a (.code (.rangeFunc go ps asg body)::k)) cs w) (lone (b.atR a1 (((jpO jp).map Item.code).toList ++ k)) cs w1)∧RT g1 w1 m a1∧a1.tmps.size=a.tmps.size∧a1.defers=mk ++ a.defers∧Marks g1 w1 w.heap.size mk ∧
   Nx B w0 g g1 (hset h2 nx (.lp 3 jp)) w w1∧KNew g g1 h (hset h2 nx (.lp 3 jp)) (fun i=>nx ≤ i):=by
 obtain ⟨vs,hev,hq,hcaps⟩:=ev_fn hm hgo hx
 have hn:hget h nx=none:=hf nx (Nat.le_refl _)
 obtain ⟨g1,w1,l,mark,r,d1,d2,d3,d4,he,k1,k3,k4,k5,k6,k7⟩:=enter_any P hI hro hn a.tmps ps asg body
 have hkn:g1.κ nx=some ⟨some l,0,0,0,true,some r⟩:=by rw [k1];simp [upd]
 have hm1:RT g1 w1 m a:=hm.mono k4
 have hyl:R g1 w1 (.yl f nx (evs m (ct.map .t))) (.func (.yield l) #[] #[]) :=
  .yl f nx _ _ _ r ct hge hkn rfl rfl rfl (hrk _ _ _ (hrd r d1 d2 d3 d4)) (by
   rw [d1];exact RL_tmps hm1 ct)
 have hfr1:Fresh ((nx,.lp 0 0)::h) (nx + 1):=fun i hi=>by rw [hget_cons,if_neg (by omega)];exact hf i (by omega)
 obtain ⟨e1,e2⟩:=hcal.fn _ _ _ _ _ _ _ hc hq
 have hcall:=e2 B w0 g1 w1 (.func (.yield l) #[] #[]::vs) k3 hm1.gl (.cons _ _ _ _ hyl (hcaps.mono k4)) hfr1
 obtain ⟨e,w2,fr,⟨y,g2,rfl,hy,hN2,hK2⟩,hsteps,hfn,hleave⟩:=hcall (b.atR { a with defers:=mark ++ a.defers } (.inRangeFunc l::k)::cs)
 have hres:(resolve a.eval (rangeCall go l) 0).run P w1=.ok { target:=.fn (.func q) vs.toArray,args:=#[.func (.yield l) #[] #[]] } w1:=by
  simp only [resolve,hev]
  simp [go_sem]
 have hinv:(invoke (.fn (.func q) vs.toArray) #[.func (.yield l) #[] #[]]).run P w1=.ok (.enter q (.func (.yield l) #[] #[]::vs).toArray) w1:=by
  have:=run_callFunc e1 (#[.func (.yield l) #[] #[]] ++ vs.toArray) w1
  simp only [invoke]
  rw [this]
  simp
 have h1:=stepR_rangeFunc (P:=P) (b:=b) (a:=a) (k:=k) (cs:=cs) (w:=w) he hres hinv
 obtain ⟨loc,hl1,hl2,hl3,hl4⟩:=hN2.le.k nx _ hkn
 have hleq:=hl4 (.inr rfl)
 subst hleq
 obtain ⟨bq,rq,p1,p2,p3,p4,p5,p6,p7⟩:=write_loop hN2.inv hst hl1 3 jp
 simp only [Option.some.injEq] at p1 p2
 subst p1;subst p2
 have hend:=run_endLoop (P:=P) p4 (by
  match st,hne with
  |0,_=>simp [stO]
  |1,h=>exact absurd rfl h
  |2,_=>simp [stO]
  |n + 3,_=>simp [stO])
 have h2':=stepR_endRangeFunc (P:=P) (b:=b) (a:={ a with defers:=mark ++ a.defers }) (k:=k) (cs:=cs) hend
 have h3:=step_leave_returned (c:=b.atR { a with defers:=mark ++ a.defers } (.inRangeFunc l::k)) (cs:=cs) hleave
 rw [finish_atR_inRangeFunc] at h3
 have hle:GLe g g2 w (w2.putObj l (.loop { r with state:=stO 3,pending:=jpO jp })):=(k4.trans hN2.le).trans p7
 refine ⟨g2,_,_,mark,Steps.trans (.one h1) (Steps.trans hsteps (Steps.trans (.one h3) (.one h2'))),(hm.mono hle).defers _,rfl,rfl,?_,?_,?_⟩
 ·exact Marks.mono (g:=g1) (Nat.le_refl _) (fun b hb=>(hN2.le.trans p7).z b hb) (fun b hb=>(hN2.le.trans p7).heap b hb) k7
 ·refine ⟨p6,hle,fun bb hb=>?_,?_⟩
  ·rcases hN2.z bb hb with hz | hz
   ·exact (k5 bb hz).imp id (Nat.le_trans hI.size)
   ·exact .inr hz
  ·have:=hN2.sz
   simp only [World.putObj_size]
   omega
 ·intro i hi hki
  have hi:i < nx:=by omega
  have:g1.κ i=none:=by rw [k1];simp [upd,hki];omega
  obtain ⟨q1,q2⟩:=hK2 i (by omega) this
  refine ⟨q1,?_⟩
  rw [hget_hset hst,if_neg (by omega),q2,hget_cons,if_neg (by omega)]
theorem run_sound {rdO:Nat→Option Rd} (hrk:∀ f r ct,RkOf P cm rdO f r ct→Sys.rk f r ct) (hcalP:CalOkP P cal) (hst:Stable (np cal) cm) (hmix:P.follows .mixedOrders=true):∀ (n:Nat) (todo:List I) (m:Tm) (h:Heap) (nx:Nat) (ex:Ex) (m':Tm) (h':Heap) (nx':Nat),
  run cal n todo m h nx=some (ex,m',h',nx')→(∀ K β,Todo P cm rdO nt K0 K todo→Base β todo→β ≤ nx→Fresh h nx→(β ≤ nx'∧Fresh h' nx'∧∀ i < β,hget h i=none→hget h' i=none) ∧
   ∀ (g:Gh) (w:World) (a:Act) (b:Frame) (cs:List Frame),Rnd β g b→Begs β g b todo→RT g w m a→a.tmps.size=nt→Inv B w0 g h w→Ran P nt K0 B w0 b cs β g h w a K ex m' h'):=by
 have hcal:=hcalP.np
 intro n
 induction n with
 |zero=>intro todo m h nx ex m' h' nx' hr;simp [run] at hr
 |succ n ih =>
  intro todo m h nx ex m' h' nx' hr K β hK hB hβ hf
  cases hK with
  |nil =>
   simp only [run,Option.some.injEq,Prod.mk.injEq] at hr
   obtain ⟨rfl,rfl,rfl,rfl⟩:=hr
   exact ⟨⟨hβ,hf,fun _ _ h=>h⟩,fun g w a b cs _ _ hm hs hI=>.here ⟨rfl,rfl⟩ hm hs hI⟩
  |inB id k l hs =>
   simp only [run] at hr
   obtain ⟨h1,h2⟩:=ih _ _ _ _ _ _ _ _ hr k β hs (fun b c hm=>hB b c (by simp [hm])) hβ hf
   exact ⟨h1,fun g w a b cs hro hbg hm hsz hI=>(h2 g w a b cs hro (hbg.sub fun _ h=>by simp [h]) hm hsz hI).step (.one stepR_inBlock)⟩
  |inS c d k l hok hs =>
   simp only [run] at hr
   obtain ⟨h1,h2⟩:=ih _ _ _ _ _ _ _ _ hr k β hs (fun b c hm=>hB b c (by simp [hm])) hβ hf
   exact ⟨h1,fun g w a b cs hro hbg hm hsz hI=>(h2 g w a b cs hro (hbg.sub fun _ h=>by simp [h]) hm hsz hI).step (.one stepR_inScope)⟩
  |beg id k l hs =>
   simp only [run] at hr
   split at hr
   ·rename_i jp hg
    obtain ⟨⟨q1,q3,q4⟩,q2⟩:=ih _ _ _ _ _ _ _ _ hr k β hs (fun b c hm=>hB b c (by simp [hm])) hβ (fun i hi=>hset_none hg i (hf i hi))
    refine ⟨⟨q1,q3,fun i hi hn=>q4 i hi (hset_none hg i hn)⟩,fun g w a b cs hro hbg hm hsz hI=>?_⟩
    obtain ⟨hid,q,loc,b1,b2,b3,b4⟩:=hbg id (by simp)
    obtain ⟨bq,rq,p1,p2,p3,p4,p5,p6,p7⟩:=write_loop hI hg b2 1 jp
    rw [b3] at p1;cases p1
    have hstep:=stepR_beginRound (P:=P) (b:=b) (a:=a) (k:=k) (cs:=cs) b1 (run_beginRound p4 rfl)
    have hN:Nx B w0 g g (hset h id (.lp 1 jp)) w (w.putObj q (.loop { rq with state:=stO 1,pending:=jpO jp })):=⟨p6,p7,fun _ h=>.inl h,by simp⟩
    refine Ran.seq (ms:=[]) (.one hstep) hN (fun i hi hk=>⟨hk,?_⟩) rfl trivial (q2 g _ a b cs (hro.le p7) ((hbg.sub fun _ h=>by simp [h]).le p7) (hm.mono p7) hsz p6)
    rw [hget_hset hg]
    split
    ·rename_i e;subst e;rw [b2] at hk;cases hk
    ·rfl
   ·simp at hr
  |inL c d t k l hok hs =>
   cases t with
   |none =>
    simp only [run] at hr
    obtain ⟨h1,h2⟩:=ih _ _ _ _ _ _ _ _ hr _ β (.code c d _ _ hok (.inL c d none k l hok hs)) (fun b c hm=>hB b c (by simpa using hm)) hβ hf
    exact ⟨h1,fun g w a b cs hro hbg hm hsz hI=>(h2 g w a b cs hro (hbg.sub fun _ h=>by simpa using h) hm hsz hI).step (.one stepR_inLoop)⟩
   |some bb =>
    simp only [run] at hr
    obtain ⟨⟨c1,c2,c3⟩,hr⟩:=chk_some hr
    have hbb:β ≤ bb:=hB bb d (by simp)
    obtain ⟨⟨h1,h2,h3⟩,h4⟩:=ih _ _ _ _ _ _ _ _ hr _ β (.code c d _ _ hok (.inL c d (some bb) k l hok hs)) (fun b c hm=>hB b c (by simpa using hm)) hbb (fun i hi=>by rw [hget_cutH,if_neg (by omega)])
    refine ⟨⟨h1,h2,fun i hi hn=>h3 i hi (by rw [hget_cutH];split;exact hn;rfl)⟩,fun g w a b cs hro hbg hm hsz hI=>?_⟩
    obtain ⟨g',a',w',K',ms,fr,r1,r2,r3,r4,r5,r5',r6,r7⟩:=h4 (gcut g bb) w a b cs (hro.cut hbb) ((hbg.sub fun _ h=>by simpa using h).cut hbb) (hm.cut c2) hsz (hI.cut c3)
    rw [gcut_gcut hbb] at r6
    refine ⟨g',a',w',K',ms,fr,Steps.trans (.one stepR_inLoop) r1,r2,r3,r4,r5,r5',r6,fun i hi hk=>?_⟩
    have hib:i < bb:=by omega
    have:=r7 i hi (by simp [gcut,hib,hk])
    refine ⟨this.1,?_⟩
    rw [this.2,hget_cutH,if_pos hib]
  |code c d k l hok hs =>
   cases d with
   |bad=>simp only [run] at hr;cases hr
   |sk =>
    simp only [run] at hr
    obtain ⟨h1,h2⟩:=ih _ _ _ _ _ _ _ _ hr k β hs (fun b c hm=>hB b c (by simp [hm])) hβ hf
    refine ⟨h1,fun g w a b cs hro hbg hm hsz hI=>?_⟩
    have hbg:=hbg.sub (l':=l) fun _ h=>by simp [h]
    cases c<;>simp only [okC,Bool.false_eq_true] at hok
    exact (h2 g w a b cs hro hbg hm hsz hI).step (.one stepR_skip)
   |lb t =>
    simp only [run] at hr
    obtain ⟨h1,h2⟩:=ih _ _ _ _ _ _ _ _ hr k β hs (fun b c hm=>hB b c (by simp [hm])) hβ hf
    refine ⟨h1,fun g w a b cs hro hbg hm hsz hI=>?_⟩
    have hbg:=hbg.sub (l':=l) fun _ h=>by simp [h]
    cases c<;>simp only [okC,Bool.false_eq_true] at hok
    exact (h2 g w a b cs hro hbg hm hsz hI).step (.one stepR_label)
   |sc x =>
    cases c<;>simp only [okC,Bool.false_eq_true] at hok
    simp only [run] at hr
    obtain ⟨h1,h2⟩:=ih _ _ _ _ _ _ _ _ hr _ β (.code _ x _ _ hok (.inS _ x _ _ hok hs)) (fun b c hm=>hB b c (by simpa using hm)) hβ hf
    exact ⟨h1,fun g w a b cs hro hbg hm hsz hI=>(h2 g w a b cs hro (hbg.sub fun _ h=>by simpa using h) hm hsz hI).step (.one stepR_scope)⟩
   |go t =>
    cases c<;>simp only [okC,Bool.false_eq_true] at hok
    simp only [beq_iff_eq] at hok
    subst hok
    simp only [run] at hr
    obtain ⟨x1,x2⟩:=goto_todo (P:=P) (cm:=cm) (rdO:=rdO) (nt:=nt) _ hs
    split at hr
    ·rename_i l' hl
     obtain ⟨k',hk',hs'⟩:=x1 _ hl
     have hmem:=go_mem _ _ _ hl
     obtain ⟨h1,h2⟩:=ih _ _ _ _ _ _ _ _ hr _ β hs' (fun b c hm=>by
      rcases hmem _ hm with ⟨_,e⟩ | e
      ·cases e
      ·exact hB b c (List.mem_cons_of_mem _ e)) hβ hf
     exact ⟨h1,fun g w a b cs hro hbg hm hsz hI=>(h2 g w a b cs hro (hbg.sub fun _ h=>by
      rcases hmem _ h with ⟨_,e⟩ | e
      ·cases e
      ·exact List.mem_cons_of_mem _ e) hm hsz hI).step (.one (stepR_goto hk'))⟩
    ·simp at hr
   |rf f x ct =>
    cases c<;>simp only [okC,Bool.false_eq_true] at hok
    rename_i go ps asg body
    simp only [Bool.and_eq_true,decide_eq_true_eq] at hok
    obtain ⟨⟨hgo,hge⟩,hrd⟩:=hok
    simp only [run] at hr
    split at hr
    ·rename_i q caps hx
     obtain ⟨⟨v,h2,nx2⟩,k1,hr⟩:=bnd_some hr
     simp only at hr
     split at hr
     ·rename_i st jp hg2
      obtain ⟨hne,hr⟩:=chk_some hr
      have hfr1:Fresh ((nx,.lp 0 0)::h) (nx + 1):=fun i hi=>by rw [hget_cons,if_neg (by omega)];exact hf i (by omega)
      have hnew:=hcal.new _ _ _ _ _ _ _ k1 hfr1
      have hfr2:Fresh (hset h2 nx (.lp 3 jp)) nx2:=fun i hi=>hset_none hg2 i (hnew.fresh hfr1 i hi)
      have hold:∀ i < β,hget h i=none→hget (hset h2 nx (.lp 3 jp)) i=none:=fun i hi hn=>hset_none hg2 i (hnew.2 i (by rw [hget_cons,if_neg (by omega)];exact hn) (.inl (by omega)))
      have hβ2:β ≤ nx2:=by have:=hnew.1;omega
      have main:∀ (K1:List Item) (l1:List I),Todo P cm rdO nt K0 K1 l1→(∀ b c,I.inL (some b) c ∈ l1→I.inL (some b) c ∈ l)→(∀ id,I.beg id ∈ l1→I.beg id ∈ l)→((jpO jp).map Item.code).toList ++ k=K1 →
        run cal n l1 m (hset h2 nx (.lp 3 jp)) nx2=some (ex,m',h',nx')→(β ≤ nx'∧Fresh h' nx'∧∀ i < β,hget h i=none→hget h' i=none) ∧
        ∀ (g:Gh) (w:World) (a:Act) (b:Frame) (cs:List Frame),Rnd β g b→Begs β g b (.code (.rf f x ct)::l)→RT g w m a→a.tmps.size=nt→Inv B w0 g h w→Ran P nt K0 B w0 b cs β g h w a (.code (.rangeFunc go ps asg body)::k) ex m' h':=by
       intro K1 l1 hT hb1 hb2 hK1 hr1
       obtain ⟨⟨q1,q3,q4⟩,q2⟩:=ih _ _ _ _ _ _ _ _ hr1 K1 β hT (fun b c hm=>hB b c (by simp [hb1 b c hm])) hβ2 hfr2
       refine ⟨⟨q1,q3,fun i hi hn=>q4 i hi (hold i hi hn)⟩,fun g w a b cs hro hbg hm hsz hI=>?_⟩
       obtain ⟨g1,a1,w1,mk,s1,s2,s3,s4,s5,s6,s7⟩:=rf_steps (rdO:=rdO) (cs:=cs) (b:=b) (k:=k) (ps:=ps) (asg:=asg) (body:=body) hrk hcal hx k1 hg2 hne hf hgo hge hro (fun r e1 e2 e3 e4=>by
        split at hrd
        ·rename_i d hd
         simp only [Bool.and_eq_true,beq_iff_eq] at hrd
         obtain ⟨⟨⟨⟨c1,c2⟩,c3⟩,c4⟩,c5⟩:=hrd
         exact ⟨d,hd,c2.symm,by rw [e2];exact c1,by rw [e1,hsz];exact c3,by rw [e1,hsz,e3];exact c4,by rw [e1,hsz,e4];exact c5⟩
        ·simp at hrd) hm hI
       rw [hK1] at s1
       exact Ran.seq s1 s6 (fun i hi hk=>s7 i (by omega) hk) s4 s5 (q2 g1 w1 a1 b cs (hro.le s6.le) ((hbg.sub fun id h=>by simp [hb2 id h]).le s6.le) s2 (by rw [s3,hsz]) s6.inv)
      split at hr
      ·exact main k l hs (fun _ _ h=>h) (fun _ h=>h) rfl hr
      ·exact main (.code .ret::k) (.code .rt::l) (.code _ _ _ _ rfl hs) (fun _ _ h=>by simpa using h) (fun _ h=>by simpa using h) rfl hr
      ·exact main (.code (.exit _)::k) (.code (.xt _)::l) (.code _ _ _ _ (by simp [okC]) hs) (fun _ _ h=>by simpa using h) (fun _ h=>by simpa using h) rfl hr
     ·simp at hr
    ·simp at hr
   |rg d gs keep =>
    cases c<;>simp only [okC,Bool.false_eq_true] at hok
    rename_i rid ops draw
    simp only [run] at hr
    obtain ⟨⟨m1,h1,nx1⟩,k1,hr⟩:=bnd_some hr
    simp only at hr
    have hn:∀ j,nx ≤ j→j < nx + gs.length→hget h j=none:=fun j hj _=>hf j hj
    obtain ⟨e1,e2⟩:=rops_new hcal gs nx m h (nx + gs.length) m1 h1 nx1 hn (Nat.le_refl _) (fun i hi=>hf i (by omega)) k1
    have hf':Fresh h (nx + gs.length):=fun i hi=>hf i (by omega)
    have hnew1:New h h1 nx nx1:=⟨by omega,fun i hi hc=>e2 i hi (by omega) (by omega)⟩
    obtain ⟨⟨q1,q3,q4⟩,q2⟩:=ih _ _ _ _ _ _ _ _ hr k β hs (fun b c hm=>hB b c (by simp [hm])) (by omega) (hnew1.fresh hf:Fresh h1 nx1)
    refine ⟨⟨q1,q3,fun i hi hn=>q4 i hi (hnew1.2 i hn (.inl (by omega)))⟩,fun g w a b cs hro hbg hm hsz hI=>?_⟩
    have hbg:=hbg.sub (l':=l) fun _ h=>by simp [h]
    have after:∀ a1 w1,RegPost B w0 nt a g h w (fun i=>nx ≤ i∧i < nx1) m1 h1 .normal a1 w1→Steps P (lone (b.atR a (.code (.region rid ops draw)::k)) cs w) (lone (b.atR a1 k) cs w1) →
      Ran P nt K0 B w0 b cs β g h w a (.code (.region rid ops draw)::k) ex m' h':=by
     rintro a1 w1 ⟨_,g1,f1,f2,f3,f4,f5⟩ hsteps
     exact Ran.seq (ms:=[]) hsteps f4 (fun i hi hk=>f5 i (fun e=>hi (by omega)) hk) f3 trivial (q2 g1 w1 a1 b cs (hro.le f4.le) (hbg.le f4.le) (f1.keep keep) f2 f4.inv)
    have fin:∀ (l:List Nat) (wi:World),Steps P (lone (b.atR a (.code (.region rid ops draw)::k)) cs w) (lone (b.atR a (.inRegion ops l::k)) cs wi) →
      wpOpsIn (fb b.roundOf) 0 P ops (RegPost B w0 nt a g h w (fun i=>nx ≤ i∧i < nx1) m1 h1) l a wi→Ran P nt K0 B w0 b cs β g h w a (.code (.region rid ops draw)::k) ex m' h':=by
     intro l wi hs1 hwp
     obtain ⟨e,a1,w1,hq,harr⟩:=wp_opsIn l a wi hwp b k cs rfl trivial (room_fb _ _)
     have he:e=.normal:=hq.1
     subst he
     exact after a1 w1 hq (hs1.trans (StepsIn.steps harr))
    cases draw with
    |false =>
     cases d with | some=>simp at hok | none =>
     simp only at hok
     have hlen:=(okGs_get _ _ hok).1
     refine fin (List.range ops.size) w (.one stepR_region) ?_
     have hsz2:ops.size=gs.length:=by simpa using hlen
     rw [List.range_eq_range',hsz2]
     exact rops_sound hcal gs 0 nx m h (nx + gs.length) m1 h1 nx1 g w a (by simpa using hok) k1 hm hsz rfl (.refl hI) hn (Nat.le_refl _) hf' (fun _ _ h=>⟨h,rfl⟩) (fun j h1 h2=>⟨h1,by omega⟩) (fun j h1 h2=>⟨by omega,h2⟩)
    |true =>
     cases d with | none=>simp at hok | some pm =>
     simp only at hok
     refine fin _ w.drew (.one stepR_region_draw) ?_
     simp only [Region.schedule,hmix,Bool.true_or,if_true]
     refine wpAnyIn_sound ops.size _ _ a w.drew ?_
     have hh:=draw_sound (r:=b.roundOf) (n:=0) (a:=a) (w:=w.drew) (g:=g) (B:=B) (w0:=w0) hcal hst hok k1 (hm.mono (GLe.drew g w)) hsz hI.drew (fun j hj=>hf _ (by omega)) (Nat.le_refl _) hf' (NN:=fun i=>nx ≤ i∧i < nx1) (fun j h1 h2=>⟨h1,by omega⟩) (fun j h1 h2=>⟨by omega,h2⟩)
     have hpost:RegPost B w0 nt a g h w.drew (fun i=>nx ≤ i∧i < nx1) m1 h1=RegPost B w0 nt a g h w (fun i=>nx ≤ i∧i < nx1) m1 h1:=by
      funext e a' w'
      unfold RegPost
      apply propext
      constructor
      ·rintro ⟨e1,g',e2,e3,e4,e5,e6⟩
       exact ⟨e1,g',e2,e3,e4,⟨e5.inv,(GLe.drew g w).trans e5.le,e5.z,e5.sz⟩,e6⟩
      ·rintro ⟨e1,g',e2,e3,e4,e5,e6⟩
       exact ⟨e1,g',e2,e3,e4,⟨e5.inv,⟨e5.le.z,e5.le.heap,e5.le.k⟩,e5.z,e5.sz⟩,e6⟩
     rw [← hpost]
     exact hh
   |rp pm c0 kp gs keep =>
    cases c<;>try (simp only [okC,Bool.false_eq_true] at hok;done)
    rename_i rid ops draw
    cases draw<;>simp only [okC,Bool.false_eq_true] at hok
    simp only [Bool.and_eq_true] at hok
    obtain ⟨hdr,hpa⟩:=hok
    have hPn:=pan_of hpa
    simp only [run] at hr
    obtain ⟨⟨p1,m1,h1,nx1⟩,k1,hr2⟩:=bnd_some hr
    clear hr
    simp only at hr2
    have hn:∀ j,nx ≤ j→j < nx + gs.length→hget h j=none:=fun j hj _=>hf j hj
    have hf':Fresh h (nx + gs.length):=fun i hi=>hf i (by omega)
    have fin:∀ (Q:Exit→Act→World→Prop) (g:Gh) (w:World) (a:Act) (b:Frame) (cs:List Frame),wpAnyIn (fb b.roundOf) 0 P .any ops Q ops.size (Array.replicate ops.size false) a w.drew →
      ∃ e a1 w1 wi,Steps P (lone (b.atR a (.code (.region rid ops true)::k)) cs w) (lone (b.atR a (.inRegion ops wi::k)) cs w.drew)∧Q e a1 w1∧ArrivesIn (Machine.fenced P (fb b.roundOf)) P (lone (b.atR a (.inRegion ops wi::k)) cs w.drew) b k cs e a1 w1:=by
     intro Q g w a b cs hwp
     have:=wpAnyIn_sound ops.size (w.tape w.drawn (.order b.fn rid)) _ a w.drew hwp
     obtain ⟨e,a1,w1,hq,harr⟩:=wp_opsIn _ a w.drew this b k cs rfl trivial (room_fb _ _)
     refine ⟨e,a1,w1,_,.one stepR_region_draw,hq,?_⟩
     simp only [Region.schedule,hmix,Bool.true_or,if_true]
     exact harr
    rcases ropsD_some k1 hPn.lt hPn.gd with ⟨z,hz,hrun⟩ | ⟨x,f,as,u,h1',nx1',k2,ho,k3,hz⟩
    ·simp only [Prod.mk.injEq] at hz
     obtain ⟨rfl,rfl⟩:=hz
     simp only at hr2
     obtain ⟨e1,e2⟩:=rops_new hcal gs nx m h (nx + gs.length) m1 h1 nx1 hn (Nat.le_refl _) (fun i hi=>hf i (by omega)) hrun
     have hnew1:New h h1 nx nx1:=⟨by omega,fun i hi hc=>e2 i hi (by omega) (by omega)⟩
     obtain ⟨⟨q1,q3,q4⟩,q2⟩:=ih _ _ _ _ _ _ _ _ hr2 k β hs (fun b c hm=>hB b c (by simp [hm])) (by omega) (hnew1.fresh hf:Fresh h1 nx1)
     refine ⟨⟨q1,q3,fun i hi hn=>q4 i hi (hnew1.2 i hn (.inl (by omega)))⟩,fun g w a b cs hro hbg hm hsz hI=>?_⟩
     have hbg:=hbg.sub (l':=l) fun _ h=>by simp [h]
     have hh:=draw_sound (r:=b.roundOf) (n:=0) (a:=a) (w:=w.drew) (g:=g) (B:=B) (w0:=w0) hcal hst hdr hrun (hm.mono (GLe.drew g w)) hsz hI.drew (fun j hj=>hf _ (by omega)) (Nat.le_refl _) hf' (NN:=fun i=>nx ≤ i∧i < nx1) (fun j h1 h2=>⟨h1,by omega⟩) (fun j h1 h2=>⟨by omega,h2⟩)
     obtain ⟨e,a1,w1,wi,hst1,⟨rfl,g1,f1,f2,f3,f4,f5⟩,harr⟩:=fin _ g w a b cs hh
     have f4':Nx B w0 g g1 h1 w w1:=⟨f4.inv,(GLe.drew g w).trans f4.le,f4.z,f4.sz⟩
     exact Ran.seq (ms:=[]) (hst1.trans (StepsIn.steps harr)) f4' (fun i hi hk=>f5 i (fun e=>hi (by omega)) hk) f3 trivial (q2 g1 w1 a1 b cs (hro.le f4'.le) (hbg.le f4'.le) (f1.keep keep) f2 f4.inv)
    ·simp only [Prod.mk.injEq] at hz
     obtain ⟨rfl,rfl,rfl,rfl⟩:=hz
     simp only [Option.some.injEq,Prod.mk.injEq] at hr2
     obtain ⟨rfl,rfl,rfl,rfl⟩:=hr2
     have hpre:=rops_new hcal (gs.take c0) nx m1 h (nx + gs.length) x.1 x.2.1 x.2.2 (fun j hj hj'=>hf j hj) (by simp;omega) hf' k2
     obtain ⟨_,_,_,_,ex3,ex4,_⟩:=pre_vals hst (draw_of hdr).dst hPn k2
     rw [ex3,ex4] at k3
     have hnewc:=hcalP.new _ _ _ _ _ _ _ k3 hf'
     have hnew1:New h h1 nx nx1:=⟨by have:=hnewc.1;omega,fun i hi hc=>hnewc.2 i hi (by rcases hc with hc | hc;exact .inl (by omega);exact .inr hc)⟩
     refine ⟨⟨by have:=hnew1.1;omega,hnew1.fresh hf,fun i hi hn=>hnew1.2 i hn (.inl (by omega))⟩,fun g w a b cs hro hbg hm hsz hI=>?_⟩
     have hh:=pan_sound (r:=b.roundOf) (n:=0) (a:=a) (w:=w.drew) (g:=g) (B:=B) (w0:=w0) hcalP hst hdr hpa k2 ho (by rw [ex3,ex4];exact k3) (hm.mono (GLe.drew g w)) hsz hI.drew (fun j hj=>hf _ (by omega)) (Nat.le_refl _) hf' (NN:=fun i=>nx ≤ i∧i < nx1) (fun j h1 h2=>⟨h1,by have:=hnewc.1;omega⟩) (fun j h1 h2=>⟨by omega,h2⟩)
     obtain ⟨e,a1,w1,wi,hst1,⟨g1,f1,f2,f3,f4,f5,y,f6,f7⟩,harr⟩:=fin _ g w a b cs hh
     subst f6
     obtain ⟨todo,hs1⟩:=harr
     have f4':Nx B w0 g g1 h1 w w1:=⟨f4.inv,(GLe.drew g w).trans f4.le,f4.z,f4.sz⟩
     refine ⟨g1,a1,w1,todo,[],_,hst1.trans (StepsIn.steps hs1),⟨y,f7,rfl⟩,f1,f2,f3,trivial,⟨f4'.inv,⟨fun _ h=>f4'.le.z _ h,fun _ h=>f4'.le.heap _ h,fun i l hl=>?_⟩,fun b hb=>f4'.z b hb,f4'.sz⟩,fun i hi hk=>f5 i (fun e=>hi (by omega)) hk⟩
     simp only [gcut] at hl
     split at hl
     ·exact f4'.le.k i l hl
     ·cases hl
   |rq gs keep =>
    cases c<;>try (simp only [okC,Bool.false_eq_true] at hok;done)
    rename_i rid ops draw
    cases draw<;>simp only [okC,Bool.false_eq_true] at hok
    simp only [run] at hr
    obtain ⟨⟨p1,m1,h1,nx1⟩,k1,hr⟩:=bnd_some hr
    simp only at hr
    have hn:∀ j,nx ≤ j→j < nx + gs.length→hget h j=none:=fun j hj _=>hf j hj
    obtain ⟨e1,e2⟩:=ropsP_new hcalP gs nx m h (nx + gs.length) p1 m1 h1 nx1 hn (Nat.le_refl _) (fun i hi=>hf i (by omega)) k1
    have hf':Fresh h (nx + gs.length):=fun i hi=>hf i (by omega)
    have hnew1:New h h1 nx nx1:=⟨by omega,fun i hi hc=>e2 i hi (by omega) (by omega)⟩
    have hlen:=okGPs_len hok
    have hsz2:ops.size=gs.length:=by simpa using hlen
    have fin:∀ (g:Gh) (w:World) (a:Act) (b:Frame) (cs:List Frame),RT g w m a→a.tmps.size=nt→Inv B w0 g h w →
      ∃ e a1 w1,RegPostP B w0 nt a g h w (fun i=>nx ≤ i∧i < nx1) p1 m1 h1 e a1 w1∧ArrivesIn (Machine.fenced P (fb b.roundOf)) P (lone (b.atR a (.inRegion ops (List.range ops.size)::k)) cs w) b k cs e a1 w1:=by
     intro g w a b cs hm hsz hI
     have hwp:=ropsP_sound (r:=b.roundOf) (n:=0) (ops:=ops) (P:=P) (nt:=nt) (B:=B) (w0:=w0) (N:=fun i=>nx ≤ i∧i < nx1) hcalP gs 0 nx m h (nx + gs.length) p1 m1 h1 nx1 g w a (by simpa using hok) k1 hm hsz rfl (.refl hI) hn (Nat.le_refl _) hf' (fun _ _ h=>⟨h,rfl⟩) (fun j h1 h2=>⟨h1,by omega⟩) (fun j h1 h2=>⟨by omega,h2⟩)
     rw [List.range_eq_range',hsz2]
     exact wp_opsIn _ a w hwp b k cs rfl trivial (room_fb _ _)
    cases p1 with
    |none =>
     simp only at hr
     obtain ⟨⟨q1,q3,q4⟩,q2⟩:=ih _ _ _ _ _ _ _ _ hr k β hs (fun b c hm=>hB b c (by simp [hm])) (by omega) (hnew1.fresh hf:Fresh h1 nx1)
     refine ⟨⟨q1,q3,fun i hi hn=>q4 i hi (hnew1.2 i hn (.inl (by omega)))⟩,fun g w a b cs hro hbg hm hsz hI=>?_⟩
     have hbg:=hbg.sub (l':=l) fun _ h=>by simp [h]
     obtain ⟨e,a1,w1,⟨g1,f1,f2,f3,f4,f5,f6⟩,harr⟩:=fin g w a b cs hm hsz hI
     subst f6
     exact Ran.seq (ms:=[]) (Steps.trans (.one stepR_region) (StepsIn.steps harr)) f4 (fun i hi hk=>f5 i (fun e=>hi (by omega)) hk) f3 trivial (q2 g1 w1 a1 b cs (hro.le f4.le) (hbg.le f4.le) (f1.keep keep) f2 f4.inv)
    |some u =>
     simp only [Option.some.injEq,Prod.mk.injEq] at hr
     obtain ⟨rfl,rfl,rfl,rfl⟩:=hr
     refine ⟨⟨by omega,hnew1.fresh hf,fun i hi hn=>hnew1.2 i hn (.inl (by omega))⟩,fun g w a b cs hro hbg hm hsz hI=>?_⟩
     obtain ⟨e,a1,w1,⟨g1,f1,f2,f3,f4,f5,x,f6,f7⟩,harr⟩:=fin g w a b cs hm hsz hI
     subst f6
     obtain ⟨todo,hs1⟩:=harr
     refine ⟨g1,a1,w1,todo,[],_,Steps.trans (.one stepR_region) (StepsIn.steps hs1),⟨x,f7,rfl⟩,f1,f2,f3,trivial,⟨f4.inv,⟨fun _ h=>f4.le.z _ h,fun _ h=>f4.le.heap _ h,fun i l hl=>?_⟩,fun b hb=>f4.z b hb,f4.sz⟩,fun i hi hk=>f5 i (fun e=>hi (by omega)) hk⟩
     simp only [gcut] at hl
     split at hl
     ·exact f4.le.k i l hl
     ·cases hl
   |sq x y =>
    cases c<;>simp only [okC,Bool.false_eq_true] at hok
    simp only [Bool.and_eq_true] at hok
    simp only [run] at hr
    obtain ⟨h1,h2⟩:=ih _ _ _ _ _ _ _ _ hr _ β (.code _ x _ _ hok.1 (.code _ y _ _ hok.2 hs)) (fun b c hm=>hB b c (by simpa using hm)) hβ hf
    exact ⟨h1,fun g w a b cs hro hbg hm hsz hI=>(h2 g w a b cs hro (hbg.sub fun _ h=>by simpa using h) hm hsz hI).step (.one stepR_seq)⟩
   |cd x y z =>
    cases c<;>simp only [okC,Bool.false_eq_true] at hok
    rename_i c' y' z'
    simp only [Bool.and_eq_true] at hok
    simp only [run] at hr
    split at hr
    ·rename_i t hx
     have hcond:∀ (g:Gh) (w:World) (a:Act),RT g w m a→a.eval c'=.bool t:=fun g w a hm=>by
      have:=R_okX hm hok.1.1
      rw [hx] at this
      exact R_bool this
     split at hr
     ·rename_i htt
      subst htt
      obtain ⟨h1,h2⟩:=ih _ _ _ _ _ _ _ _ hr _ β (.code y' y _ _ hok.1.2 hs) (fun b c hm=>hB b c (by simpa using hm)) hβ hf
      exact ⟨h1,fun g w a b cs hro hbg hm hsz hI=>(h2 g w a b cs hro (hbg.sub fun _ h=>by simpa using h) hm hsz hI).step (.one (by simpa using stepR_cond (hcond g w a hm)))⟩
     ·rename_i htt
      have:t=false:=by simpa using htt
      subst this
      obtain ⟨h1,h2⟩:=ih _ _ _ _ _ _ _ _ hr _ β (.code z' z _ _ hok.2 hs) (fun b c hm=>hB b c (by simpa using hm)) hβ hf
      exact ⟨h1,fun g w a b cs hro hbg hm hsz hI=>(h2 g w a b cs hro (hbg.sub fun _ h=>by simpa using h) hm hsz hI).step (.one (by simpa using stepR_cond (hcond g w a hm)))⟩
    ·simp at hr
   |bl id x =>
    cases c<;>simp only [okC,Bool.false_eq_true] at hok
    simp only [Bool.and_eq_true,beq_iff_eq] at hok
    obtain ⟨rfl,hok⟩:=hok
    simp only [run] at hr
    obtain ⟨h1,h2⟩:=ih _ _ _ _ _ _ _ _ hr _ β (.code _ x _ _ hok (.inB _ _ _ hs)) (fun b c hm=>hB b c (by simpa using hm)) hβ hf
    exact ⟨h1,fun g w a b cs hro hbg hm hsz hI=>(h2 g w a b cs hro (hbg.sub fun _ h=>by simpa using h) hm hsz hI).step (.one stepR_block)⟩
   |lp tr x =>
    cases c<;>simp only [okC,Bool.false_eq_true] at hok
    simp only [run] at hr
    obtain ⟨h1,h2⟩:=ih _ _ _ _ _ _ _ _ hr _ β (.code _ x _ _ hok (.inL _ x _ _ _ hok hs)) (fun b c hm=>by
     simp only [List.mem_cons,reduceCtorEq,false_or] at hm
     rcases hm with hm | hm
     ·cases tr
      ·simp at hm
      ·simp at hm;omega
     ·exact hB b c (by simp [hm])) hβ hf
    exact ⟨h1,fun g w a b cs hro hbg hm hsz hI=>(h2 g w a b cs hro (hbg.sub fun _ h=>by simpa using h) hm hsz hI).step (.one stepR_loop)⟩
   |xt id =>
    cases c<;>simp only [okC,Bool.false_eq_true] at hok
    simp only [beq_iff_eq] at hok
    subst hok
    simp only [run] at hr
    obtain ⟨x1,x2⟩:=exit_todo (P:=P) (cm:=cm) (nt:=nt) _ hs
    split at hr
    ·rename_i l' hl
     obtain ⟨k',hk',hs'⟩:=x1 _ hl
     obtain ⟨h1,h2⟩:=ih _ _ _ _ _ _ _ _ hr _ β hs' (fun b c hm=>hB b c (List.mem_cons_of_mem _ (exit_mem _ _ _ hl _ hm))) hβ hf
     exact ⟨h1,fun g w a b cs hro hbg hm hsz hI=>(h2 g w a b cs hro (hbg.sub fun _ h=>List.mem_cons_of_mem _ (exit_mem _ _ _ hl _ h)) hm hsz hI).step (.one (stepR_exit hk'))⟩
    ·rename_i hl
     simp only [Option.some.injEq,Prod.mk.injEq] at hr
     obtain ⟨rfl,rfl,rfl,rfl⟩:=hr
     exact ⟨⟨hβ,hf,fun _ _ h=>h⟩,fun g w a b cs _ _ hm hsz hI=>.here ⟨⟨k,rfl,x2 hl⟩,rfl⟩ hm hsz hI⟩
   |rt =>
    cases c<;>simp only [okC,Bool.false_eq_true] at hok
    simp only [run,Option.some.injEq,Prod.mk.injEq] at hr
    obtain ⟨rfl,rfl,rfl,rfl⟩:=hr
    exact ⟨⟨hβ,hf,fun _ _ h=>h⟩,fun g w a b cs _ _ hm hsz hI=>.here ⟨⟨k,rfl⟩,rfl⟩ hm hsz hI⟩
end
end Go.FI
