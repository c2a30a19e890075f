/- Values of types,seen as data. -/
import Derived.Test.YtkobnfjeehnhlaaGreatDoorFIRow
set_option linter.all false
namespace Go.FI
variable [Sys]
def sliceOf (P:Program) (t:TypeId):Option TypeId:=match P.underlying t with | some (.slice e)=>some e | _=>none
def kindOf (P:Program) (t:TypeId):Option IntKind:=match P.underlying t with | some (.int k)=>some k | _=>none
def strT (P:Program) (t:TypeId):Bool:=match P.underlying t with | some .string=>true | _=>false
def boolT (P:Program) (t:TypeId):Bool:=match P.underlying t with | some .bool=>true | _=>false
def fldAt (P:Program) (t:TypeId) (i:Nat):Option (TypeId × Nat × Nat):=match P.underlying t with | some (.struct fs)=>fs.toList[i]?.map fun f=>(f.type,f.offset,P.cellsOf f.type) | _=>none
section
variable {P:Program} {n:Nat} {t:TypeId} {cs:List FV}
theorem OfT.slice {e:TypeId} (h:OfT P n t cs) (he:sliceOf P t=some e):∃ (m:Nat) (css:List (List FV)),cs=[.lst false (css.map (mkE P e))]∧css.length ≤ maxLen∧∀ c ∈ css,OfT P m e c:=by
 cases n with
 |zero=>cases h
 |succ n =>
  obtain ⟨_,_,h⟩:=h
  unfold sliceOf at he
  split at he
  ·rename_i hu
   cases he
   rw [hu] at h
   obtain ⟨css,h1,h2,h3⟩:=h
   exact ⟨n,css,h1,h2,h3⟩
  ·cases he
theorem OfT.int {k:IntKind} (h:OfT P n t cs) (hk:kindOf P t=some k):∃ x,cs=[.int k x]∧k.min ≤ x∧x ≤ k.max:=by
 cases n with
 |zero=>cases h
 |succ n =>
  obtain ⟨_,_,h⟩:=h
  unfold kindOf at hk
  split at hk
  ·rename_i hu
   cases hk
   rw [hu] at h
   exact h
  ·cases hk
theorem OfT.str (h:OfT P n t cs) (hk:strT P t=true):∃ s,cs=[.str s]∧s.length ≤ maxLen:=by
 cases n with
 |zero=>cases h
 |succ n =>
  obtain ⟨_,_,h⟩:=h
  unfold strT at hk
  split at hk
  ·rename_i hu
   rw [hu] at h
   exact h
  ·cases hk
theorem OfT.bool (h:OfT P n t cs) (hk:boolT P t=true):∃ b,cs=[.bool b]:=by
 cases n with
 |zero=>cases h
 |succ n =>
  obtain ⟨_,_,h⟩:=h
  unfold boolT at hk
  split at hk
  ·rename_i hu
   rw [hu] at h
   exact h
  ·cases hk
theorem OfT.field (h:OfT P n t cs) (i:Nat) {u off k:Nat} (hf:fldAt P t i=some (u,off,k)):∃ m,OfT P m u ((cs.drop off).take k):=by
 cases n with
 |zero=>cases h
 |succ n =>
  obtain ⟨_,_,h⟩:=h
  unfold fldAt at hf
  split at hf
  ·rename_i fs hu
   rw [hu] at h
   cases hx:fs.toList[i]? with
   |none=>rw [hx] at hf;cases hf
   |some f =>
    rw [hx] at hf
    cases hf
    exact ⟨n,h f (List.mem_of_getElem? hx)⟩
  ·cases hf
theorem OfT.len (h:OfT P n t cs) {k:Nat} (hk:P.cellsOf t=k):cs.length=k:=h.length.trans hk
theorem list_view {α β:Type} {mk:β→FV} {enc:α→FV} {good:α→Prop}:∀ {css:List β},(∀ c ∈ css,∃ a,mk c=enc a∧good a)→∃ l:List α,css.map mk=l.map enc∧l.length=css.length∧∀ a ∈ l,good a:=by
 intro css
 induction css with
 |nil=>intro _;exact ⟨[],rfl,rfl,by simp⟩
 |cons c css ih =>
  intro h
  obtain ⟨a,h1,h2⟩:=h c (by simp)
  obtain ⟨l,h3,h4,h5⟩:=ih fun c hc=>h c (by simp [hc])
  exact ⟨a::l,by simp [h1,h3],by simp [h4],by simpa using ⟨h2,h5⟩⟩
theorem mkE_agg (ha:isAgg P t=true):mkE P t cs=.agg cs:=if_pos ha
theorem mkE_one (ha:isAgg P t=false) {v:FV}:mkE P t [v]=v:=by
 unfold mkE
 rw [ha]
 rfl
theorem OfT.bools {e:TypeId} (h:OfT P n t cs) (he:sliceOf P t=some e) (hk:boolT P e=true) (ha:isAgg P e=false):∃ l:List Bool,cs=[.lst false (l.map .bool)]∧l.length ≤ maxLen:=by
 obtain ⟨m,css,rfl,h2,h3⟩:=h.slice he
 obtain ⟨l,h4,h5,_⟩:=list_view (css:=css) (mk:=mkE P e) (enc:=.bool) (good:=fun _=>True) fun c hc=>by
  obtain ⟨x,rfl⟩:=(h3 c hc).bool hk
  exact ⟨x,mkE_one ha,trivial⟩
 exact ⟨l,by rw [h4],by omega⟩
theorem OfT.pairs {e u v:TypeId} {α β:Type} {f:α→FV} {g:β→FV} {ga:α→Prop} {gb:β→Prop} (h:OfT P n t cs) (he:sliceOf P t=some e) (ha:isAgg P e=true) (hl:P.cellsOf e=2) (h0:fldAt P e 0=some (u,0,1)) (h1:fldAt P e 1=some (v,1,1))
  (hu:∀ m c,OfT P m u c→∃ a,c=[f a]∧ga a) (hv:∀ m c,OfT P m v c→∃ b,c=[g b]∧gb b) :
  ∃ l:List (α × β),cs=[.lst false (l.map fun p=>.agg [f p.1,g p.2])]∧l.length ≤ maxLen∧∀ p ∈ l,ga p.1∧gb p.2:=by
 obtain ⟨m,css,rfl,h2,h3⟩:=h.slice he
 obtain ⟨l,h4,h5,h6⟩:=list_view (css:=css) (mk:=mkE P e) (enc:=fun p:α × β=>.agg [f p.1,g p.2]) (good:=fun p=>ga p.1∧gb p.2) fun c hc=>by
  have hc':=h3 c hc
  have hlen:=hc'.len hl
  obtain ⟨_,h7⟩:=hc'.field 0 h0
  obtain ⟨_,h8⟩:=hc'.field 1 h1
  match c,hlen with
  |[x,y],_ =>
   obtain ⟨a,e1,g1⟩:=hu _ _ h7
   obtain ⟨b,e2,g2⟩:=hv _ _ h8
   simp at e1 e2
   exact ⟨(a,b),by rw [mkE_agg ha,e1,e2],g1,g2⟩
 exact ⟨l,by rw [h4],by omega,h6⟩
end
end Go.FI
