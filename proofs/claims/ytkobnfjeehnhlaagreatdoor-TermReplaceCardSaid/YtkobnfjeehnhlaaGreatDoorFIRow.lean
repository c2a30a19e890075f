/- From a call on values to the step of a row: the law returns true,and what it was given reads as it did. -/
import Derived.Test.YtkobnfjeehnhlaaGreatDoorFIOpen
import Derived.Test.YtkobnfjeehnhlaaGreatDoorFICal2
import Derived.Carry
import Derived.OpenShut
set_option linter.all false
namespace Go.FI
open Go.RowKit Go.ChangeShapes
variable [Sys]
def OfTs (P:Program):List TypeId→List FV→Prop
 |[],[]=>True
 |t::ts,v::vs=>(∃ n cs,OfT P n t cs∧v=mkE P t cs)∧OfTs P ts vs
 |_,_=>False
theorem R_mkE {g:Gh} {w:World} {P:Program} {b n:Nat} {t:TypeId} {vs:List FV} {v:Value} (hc:isAgg P t=true ∨ P.cellsOf t=1) (hok:Value.okWide P w .any b t v) (hv:OfT P n t vs) (hr:RL g w vs v.cells.toList):R g w (mkE P t vs) v:=by
 unfold mkE
 split
 ·rename_i ha
  have:∃ cs,v=.agg cs:=by
   unfold isAgg at ha
   unfold Value.okWide at hok
   split at ha
   ·rename_i h;rw [h] at hok;obtain ⟨cs,h,_⟩:=hok;exact ⟨cs,h⟩
   ·rename_i h;rw [h] at hok;obtain ⟨cs,h,_⟩:=hok;exact ⟨cs,h⟩
   ·cases ha
  obtain ⟨cs,rfl⟩:=this
  have:=R.agg vs cs.toList hr
  simpa using this
 ·rename_i ha
  have h1:vs.length=1:=by
   rcases hc with hc | hc
   ·exact absurd hc ha
   ·rw [hv.length,hc]
  match vs,h1 with
  |[x],_ =>
   have:v.cells=#[v]:=by
    cases v<;>try rfl
    exfalso
    unfold Value.okWide Cell.okWide Cell.ok at hok
    unfold isAgg at ha
    split at hok
    ·rename_i h;rw [h] at ha;simp at ha
    ·rename_i h;rw [h] at ha;simp at ha
    ·split at hok<;>simp_all
   rw [this] at hr
   cases hr with | cons _ _ _ _ hx _=>exact hx
theorem closed_one {P:Program} {ts:List TypeId} (hcl:closed P ts=true) {t:TypeId} (ht:t ∈ ts):isAgg P t=true ∨ P.cellsOf t=1:=by
 have hc:closed1 P ts t=true:=by
  unfold closed at hcl
  exact List.all_eq_true.1 hcl t ht
 unfold closed1 at hc
 unfold isAgg
 split at hc<;>rename_i h<;>simp_all
theorem open_all {H:Type} {enc:TypeId × Value→H} {P:Program} {w:World} {spare:Nat→Bool} {held:Bool} {ts:List TypeId} (hcl:closed P ts=true) :
  ∀ (params:List TypeId) (vs:List Value) (ds:List (DataW H)) (ps:List MemPlace),(∀ t ∈ params,t ∈ ts)→(∀ (j:Nat) t v,params[j]? = some t→vs[j]? = some v→∃ b,Value.okWide P w .any b t v) →
   DataW.TrodAll enc P w 0 spare held params vs ds ps→∃ fs,OfTs P params fs∧RL ⟨fun _=>none,(· < w.heap.size)⟩ w fs vs:=by
 intro params
 induction params with
 |nil =>
  intro vs ds ps _ _ h
  cases vs with
  |nil=>exact ⟨[],trivial,.nil⟩
  |cons v vs=>cases ds<;>cases h
 |cons t params ih =>
  intro vs ds ps hts hok h
  cases vs with
  |nil=>cases ds<;>cases h
  |cons v vs =>
   cases ds with
   |nil=>cases h
   |cons d ds =>
    obtain ⟨p,q,⟨n,h1⟩,h2,rfl⟩:=h
    obtain ⟨fs,h3,h4⟩:=ih vs ds q (fun t ht=>hts t (by simp [ht])) (fun j t v hj hv=>hok (j + 1) t v (by simpa using hj) (by simpa using hv)) h2
    obtain ⟨b,hb⟩:=hok 0 t v rfl rfl
    obtain ⟨cs,h5,h6⟩:=opens (Z:=(· < w.heap.size)) (fun b h=>h) hcl n t _ d p (hts t (by simp)) h1
    exact ⟨mkE P t cs::fs,⟨⟨n,cs,h5,rfl⟩,h3⟩,.cons _ _ _ _ (R_mkE (closed_one hcl (hts t (by simp))) hb h5 h6) h4⟩
theorem trodAll_below {H:Type} {enc:TypeId × Value→H} {P:Program} (hl:laidOutB P=true) {W W':World} (hb:Below W.heap.size W W') :
  ∀ (params:List TypeId) (vs:List Value) (ds:List (DataW H)) (ps:List MemPlace),(params.all fun t=>P.readableRec t && decide (t < P.types.size))=true→(∀ x ∈ ps,x.block < W.heap.size) →
   DataW.TrodAll enc P W 0 (fun _=>true) true params vs ds ps→DataW.TrodAll enc P W' 0 (fun b=>decide (b < W.heap.size)) true params vs ds ps:=by
 intro params
 induction params with
 |nil =>
  intro vs ds ps _ _ h
  cases vs<;>cases ds<;>exact h
 |cons t params ih =>
  intro vs ds ps hp hlt h
  simp only [List.all_cons,Bool.and_eq_true,decide_eq_true_eq] at hp
  cases vs with
  |nil=>cases ds<;>cases h
  |cons v vs =>
   cases ds with
   |nil=>cases h
   |cons d ds =>
    obtain ⟨p,q,h1,h2,rfl⟩:=h
    exact ⟨p,q,Below.trod hl hp.1.1 hp.1.2 h1 hb (fun x hx=>hlt x (by simp [hx])),ih vs ds q hp.2 (fun x hx=>hlt x (by simp [hx])) h2,rfl⟩
theorem contract_true {H:Type} {enc:TypeId × Value→H} {P:Program} {W:World} {base:Nat} {args:Array Value} {ds gs:List (DataW H)} {before:List MemPlace} {f:Func} {k:Nat} {s:ChangeSpec} {ts:List TypeId} {tb:TypeId}
  (hcl:closed P ts=true) (hts:(f.params.toList.all ts.contains)=true) (hlaid:laidOutB P=true) (hrd:(f.params.toList.all fun t=>P.readableRec t && decide (t < P.types.size))=true) (hr:f.resultTypes=#[tb]) (hb:P.underlying tb=some .bool) (hvars:s.vars=[])
  (hfn:∀ ds:List (DataW H),ds.length=f.params.size→(s.fn H ds).results=[.lit (.bool true)]∧(s.fn H ds).args=ds∧(s.fn H ds).vars=[])
  (hiso:∀ fs,OfTs P f.params.toList fs→IsoCall P k fs (.bool true))
  (hgl:GlOk ⟨fun _=>none,(· < W.heap.size)⟩ W) (hval:∀ (j:Nat) t v,f.params[j]? = some t→args[j]? = some v→Value.okWide P W .any base t v)
  (hW:DataW.Whole enc P f.params.toList s.vars false W args.toList ds gs before) :
  Calls P k args W fun e W'=>∃ v,e=.returned v∧s.post enc P f false true false false W args v W':=by
 have hlt:∀ x ∈ before,x.block < W.heap.size:=fun x hx=>by simpa using hW.lt x hx
 obtain ⟨p,q,hA,hV,rfl,hfz,hnd⟩:=hW
 have hVn:gs=[]∧q=[]:=by
  rw [hvars] at hV
  cases gs with
  |nil=>exact ⟨rfl,hV⟩
  |cons=>cases hV
 obtain ⟨rfl,rfl⟩:=hVn
 obtain ⟨fs,h1,h2⟩:=open_all hcl f.params.toList args.toList ds p (fun t ht=>by simpa using List.all_eq_true.1 hts t ht)
  (fun j t v hj hv=>⟨base,hval j t v (by simpa using hj) (by simpa using hv)⟩) hA
 have hc:=hiso fs h1 _ W args.toList (fun b h=>h) hgl h2
 have hlen:ds.length=f.params.size:=by
  have:∀ (params:List TypeId) (vs:List Value) (ds:List (DataW H)) (ps:List MemPlace),DataW.TrodAll enc P W 0 (fun _=>true) true params vs ds ps→ds.length=params.length:=by
   intro params
   induction params with
   |nil=>intro vs ds ps h;cases vs<;>cases ds<;>first | rfl | cases h
   |cons t params ih =>
    intro vs ds ps h
    cases vs with
    |nil=>cases ds<;>cases h
    |cons v vs =>
     cases ds with
     |nil=>cases h
     |cons d ds =>
      obtain ⟨_,_,_,h2,_⟩:=h
      simp [ih vs ds _ h2]
  simpa using this _ _ _ _ hA
 obtain ⟨hf1,hf2,hf3⟩:=hfn ds hlen
 have hargs:args.toList.toArray=args:=by simp
 rw [hargs] at hc
 refine hc.mono fun e W' ⟨x,he,hbelow,hx⟩=>?_
 subst he
 cases hx with
 |bool =>
 refine ⟨.bool true,rfl,ds,[],p ++ [],[],p,[],⟨p,[],hA,hV,rfl,hfz,hnd⟩,?_,?_,?_,?_,fun h=>by cases h⟩
 ·rw [List.append_nil,hf1,hr]
  exact trodAll_cons_mk (shut_bool hb _) trodAll_mk0
 ·rw [List.append_nil,hf2]
  exact trodAll_below hlaid hbelow _ _ _ _ hrd (fun x hx=>hlt x (by simp [hx])) hA
 ·rw [List.append_nil,hf3,hvars]
  rfl
 ·exact hbelow.frame _
end Go.FI
