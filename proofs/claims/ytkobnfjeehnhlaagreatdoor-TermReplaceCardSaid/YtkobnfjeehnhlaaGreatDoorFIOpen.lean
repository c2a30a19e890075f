/- What a reading of arguments gives: the interpreter's values. -/
import Derived.Test.YtkobnfjeehnhlaaGreatDoorFIRel
import Derived.ChangeShapes
import Derived.ChangeSame
set_option linter.all false
namespace Go.FI
open Go.RowKit Go.ChangeShapes
variable [Sys]
def isAgg (P:Program) (t:TypeId):Bool :=
 match P.underlying t with
 |some (.struct _) | some (.array _ _)=>true
 |_=>false
def mkE (P:Program) (e:TypeId) (cs:List FV):FV:=if isAgg P e=true then .agg cs else cs.headD .undef
def OfT (P:Program):Nat→TypeId→List FV→Prop
 |0,_,_=>False
 |n + 1,t,cs=>cs.length=P.cellsOf t∧(cs.all FV.one=true)∧match P.underlying t with
  |some .bool=>∃ b,cs=[.bool b]
  |some (.int k)=>∃ x,cs=[.int k x]∧k.min ≤ x∧x ≤ k.max
  |some .string=>∃ s,cs=[.str s]∧s.length ≤ maxLen
  |some (.slice e)=>∃ css:List (List FV),cs=[.lst false (css.map (mkE P e))]∧css.length ≤ maxLen∧∀ c ∈ css,OfT P n e c
  |some (.struct fs)=>∀ f ∈ fs.toList,OfT P n f.type ((cs.drop f.offset).take (P.cellsOf f.type))
  |some (.array m e)=>∀ i,i < m→OfT P n e ((cs.drop (i * P.cellsOf e)).take (P.cellsOf e))
  |_=>False
def tile (P:Program):Nat→List Field→Nat→Bool
 |off,[],n=>decide (off=n)
 |off,f::fs,n=>decide (f.offset=off) && tile P (off + P.cellsOf f.type) fs n
def closed1 (P:Program) (ts:List TypeId) (t:TypeId):Bool :=
 match P.underlying t with
 |some .bool | some (.int _) | some .string=>decide (P.cellsOf t=1)
 |some (.slice e)=>decide (P.cellsOf t=1) && ts.contains e && decide (0 < P.cellsOf e) && (isAgg P e || decide (P.cellsOf e=1))
 |some (.struct fs)=>(fs.toList.all fun f=>ts.contains f.type) && tile P 0 fs.toList (P.cellsOf t)
 |some (.array m e)=>ts.contains e && decide (P.cellsOf t=m * P.cellsOf e)
 |_=>false
def closed (P:Program) (ts:List TypeId):Bool:=ts.all (closed1 P ts)
theorem OfT.length {P:Program} {n:Nat} {t:TypeId} {cs:List FV} (h:OfT P n t cs):cs.length=P.cellsOf t:=by
 cases n with
 |zero=>cases h
 |succ n=>exact h.1
theorem OfT.all1 {P:Program} {n:Nat} {t:TypeId} {cs:List FV} (h:OfT P n t cs):cs.all FV.one=true:=by
 cases n with
 |zero=>cases h
 |succ n=>exact h.2.1
theorem cells_mkE {P:Program} {n:Nat} {e:TypeId} {cs:List FV} (h:OfT P n e cs) (he:isAgg P e=true ∨ P.cellsOf e=1):(mkE P e cs).cells=cs∧(mkE P e cs).ok=true:=by
 unfold mkE
 split
 ·exact ⟨rfl,h.all1⟩
 ·rename_i hn
  have h1:=h.length
  have h2:=h.all1
  rcases he with he | he
  ·exact absurd he hn
  ·rw [he] at h1
   match cs,h1 with
   |[x],_ =>
    simp only [List.all_cons,List.all_nil,Bool.and_true] at h2
    cases x<;>first | (exact ⟨rfl,rfl⟩) | (simp [FV.one] at h2)
theorem pick {α:Type} {p:Nat→α→Prop}:∀ (n:Nat),(∀ i,i < n→∃ v,p i v)→∃ l:List α,l.length=n∧∀ i v,l[i]? = some v→p i v:=by
 intro n
 induction n with
 |zero=>intro _;exact ⟨[],rfl,by simp⟩
 |succ n ih =>
  intro h
  obtain ⟨l,h1,h2⟩:=ih fun i hi=>h i (by omega)
  obtain ⟨v,hv⟩:=h n (by omega)
  refine ⟨l ++ [v],by simp [h1],fun i u hu=>?_⟩
  rw [List.getElem?_append] at hu
  split at hu
  ·exact h2 i u hu
  ·rename_i hi
   have:i=n:=by
    have:=(List.getElem?_eq_some_iff.1 hu).1
    simp at this;omega
   subst this
   simp [h1] at hu
   subst hu
   exact hv
theorem mapM_each {α β:Type} {f:α→Option β}:∀ {l:List α} {ys:List β},l.mapM f=some ys→∀ x ∈ l,∃ y,f x=some y:=by
 intro l
 induction l with
 |nil=>intro ys _ x hx;cases hx
 |cons a l ih =>
  intro ys h x hx
  rw [List.mapM_cons] at h
  cases ha:f a with
  |none=>rw [ha] at h;cases h
  |some y =>
   rw [ha] at h
   cases hl:l.mapM f with
   |none=>rw [hl] at h;cases h
   |some zs =>
    cases hx with
    |head=>exact ⟨y,ha⟩
    |tail _ hx=>exact ih hl x hx
theorem cell_spot {w:World} {a:Addr} {v:Value} (h:w.cell? a=some v):w.cell? ⟨a.block,a.off,none⟩=some v∧a.block < w.heap.size:=by
 unfold World.cell? at h ⊢
 split at h
 ·rename_i c _ _ hb
  split at h
  ·cases h
  ·simp only [hb]
   refine ⟨h,?_⟩
   exact (Array.getElem?_eq_some_iff.1 hb).1
 ·cases h
theorem add_off (a:Addr) (n:Nat):(a.add n).block=a.block∧(a.add n).off=a.off + n:=by
 unfold Addr.add
 split
 ·rename_i h;subst h;exact ⟨rfl,rfl⟩
 ·exact ⟨rfl,rfl⟩
theorem row_cells {g:Gh} {w:World} {base es b o:Nat} {a:Addr} (hb:a.block=b) (ho:a.off=o):∀ (css:List (List FV)) (i:Nat),
  (∀ j v,css[j]? = some v→∃ ci,w.cells? base (a.add ((i + j) * es)) es=some ci∧RL g w v ci) →
  ∃ ws,RL g w css.flatten ws∧∀ (j:Nat) v,ws[j]? = some v→w.cell? ⟨b,o + i * es + j,none⟩=some v:=by
 intro css
 induction css with
 |nil=>intro i _;exact ⟨[],.nil,by simp⟩
 |cons c css ih =>
  intro i h
  obtain ⟨ci,h1,h2⟩:=h 0 c rfl
  obtain ⟨ws,h3,h4⟩:=ih (i + 1) fun j v hv=>by
   obtain ⟨cj,k1,k2⟩:=h (j + 1) v (by simpa using hv)
   exact ⟨cj,by rw [show i + 1 + j=i + (j + 1) by omega];exact k1,k2⟩
  obtain ⟨_,h5,h6⟩:=World.cells?_some h1
  refine ⟨ci ++ ws,RL.append h2 h3,fun j v hv=>?_⟩
  rw [List.getElem?_append] at hv
  split at hv
  ·rename_i hj
   have h7:=h6 j (by omega)
   rw [hv] at h7
   have h8:=(cell_spot h7).1
   rw [(add_off _ _).1,(add_off _ _).2,(add_off _ _).1,(add_off _ _).2,hb,ho] at h8
   simpa using h8
  ·rename_i hj
   have:=h4 (j - ci.length) v hv
   rw [h5] at this
   have e:o + (i + 1) * es + (j - es)=o + i * es + j:=by
    rw [h5] at hj
    rw [Nat.add_mul]
    omega
   rw [e] at this
   exact this
theorem trod_strL {H:Type} {enc:TypeId × Value→H} {P:Program} {w:World} {base:Nat} {spare:Nat→Bool} {held:Bool} {n:Nat} {t:TypeId} {cs:List Value} {x:DataW H × List MemPlace} (hu:P.underlying t=some .string) (h:DataW.trod enc P w base spare held n t cs=some x) :
  ∃ s,cs=[.string s]∧s.size ≤ maxLen∧x=(.lit (.string s.data.toList),[]):=by
 cases n with
 |zero=>simp [DataW.trod] at h
 |succ n =>
  unfold DataW.trod at h
  rw [hu] at h
  rcases cs with _ | ⟨v,_ | ⟨v2,r⟩⟩
  ·simp at h
  ·cases v<;>simp only at h<;>try (first | (cases h;done) | (simp at h;done))
   split at h
   ·rename_i hs
    cases h
    exact ⟨_,rfl,hs,rfl⟩
   ·cases h
  ·cases v<;>simp at h
theorem trod_sliceL {H:Type} {enc:TypeId × Value→H} {P:Program} {w:World} {base:Nat} {spare:Nat→Bool} {held:Bool} {n:Nat} {t e:TypeId} {cs:List Value} {x:DataW H × List MemPlace} (hu:P.underlying t=some (.slice e)) (h:DataW.trod enc P w base spare held (n + 1) t cs=some x) :
  cs=[.slice none 0 0] ∨ ∃ (a:Addr) (len cap:Nat) (els:List (DataW H × List MemPlace)),cs=[.slice (some a) len cap]∧len ≤ cap∧cap ≤ maxLen ∧
   (List.range len).mapM (fun i=>(w.cells? base (a.add (i * P.cellsOf e)) (P.cellsOf e)).bind (DataW.trod enc P w base spare held n e))=some els:=by
 unfold DataW.trod at h
 rw [hu] at h
 rcases cs with _ | ⟨v,_ | ⟨v2,r⟩⟩
 ·simp at h
 ·cases v
  case slice o len cap =>
   cases o with
   |none=>cases len<;>cases cap<;>first | exact .inl rfl | (simp at h)
   |some a =>
    simp only at h
    split at h
    ·rename_i hx
     refine .inr ⟨a,len,cap,?_⟩
     cases hm:(List.range len).mapM (fun i=>(w.cells? base (a.add (i * P.cellsOf e)) (P.cellsOf e)).bind (DataW.trod enc P w base spare held n e)) with
     |none=>rw [hm] at h;cases h
     |some els=>exact ⟨els,rfl,hx.2.1,hx.2.2,rfl⟩
    ·cases h
  all_goals simp at h
 ·cases v<;>simp at h
theorem opens {H:Type} {enc:TypeId × Value→H} {P:Program} {w:World} {base:Nat} {spare:Nat→Bool} {held:Bool} {Z:Nat→Prop} (hZ:∀ b,b < w.heap.size→Z b) {ts:List TypeId} (hcl:closed P ts=true) :
  ∀ (n:Nat) (t:TypeId) (cs:List Value) (d:DataW H) (ps:List MemPlace),t ∈ ts→DataW.trod enc P w base spare held n t cs=some (d,ps) →
   ∃ vs,OfT P n t vs∧RL ⟨fun _=>none,Z⟩ w vs cs:=by
 intro n
 induction n with
 |zero=>intro t cs d ps _ h;simp [DataW.trod] at h
 |succ n ih =>
  intro t cs d ps ht h
  have hc:closed1 P ts t=true:=by
   unfold closed at hcl
   exact List.all_eq_true.1 hcl t ht
  unfold closed1 at hc
  have h0:=h
  unfold DataW.trod at h
  cases hu:P.underlying t with
  |none=>rw [hu] at hc;cases hc
  |some u =>
   rw [hu] at hc h
   cases u with
   |bool =>
    simp only [decide_eq_true_eq] at hc
    obtain ⟨b,rfl,_⟩:=DataW.trod_bool hu h0
    exact ⟨[.bool b],⟨by simpa using hc.symm,rfl,by rw [hu];exact ⟨b,rfl⟩⟩,.cons _ _ _ _ (.bool b) .nil⟩
   |int k =>
    simp only [decide_eq_true_eq] at hc
    obtain ⟨x,rfl,_,hw⟩:=DataW.trod_int hu h0
    have hb:k.min ≤ x∧x ≤ k.max:=by simpa [Lit.wf] using hw
    exact ⟨[.int k x],⟨by simpa using hc.symm,rfl,by rw [hu];exact ⟨x,rfl,hb⟩⟩,.cons _ _ _ _ (.int k x) .nil⟩
   |string =>
    simp only [decide_eq_true_eq] at hc
    obtain ⟨s,rfl,hs,_⟩:=trod_strL hu h0
    exact ⟨[.str s.data.toList],⟨by simpa using hc.symm,rfl,by rw [hu];exact ⟨_,rfl,by simpa using hs⟩⟩,.cons _ _ _ _ (.str s) .nil⟩
   |slice e =>
    simp only [Bool.and_eq_true,decide_eq_true_eq,Bool.or_eq_true,List.contains_iff_mem] at hc
    obtain ⟨⟨⟨h1,he⟩,hpos⟩,hag⟩:=hc
    rcases trod_sliceL hu h0 with rfl | ⟨a,len,cap,els,rfl,hx2,hx3,hm⟩
    ·exact ⟨[.lst false []],⟨by simpa using h1.symm,rfl,by rw [hu];exact ⟨[],rfl,by simp,by simp⟩⟩,.cons _ _ _ _ (.lst0 false none 0 (by simp)) .nil⟩
    ·have hel:∀ i,i < len→∃ v,OfT P n e v∧∃ ci,w.cells? base (a.add (i * P.cellsOf e)) (P.cellsOf e)=some ci∧RL ⟨fun _=>none,Z⟩ w v ci:=by
      intro i hi
      obtain ⟨y,hy⟩:=mapM_each hm i (by simpa using hi)
      cases hcs:w.cells? base (a.add (i * P.cellsOf e)) (P.cellsOf e) with
      |none=>rw [hcs] at hy;cases hy
      |some ci =>
       rw [hcs] at hy
       obtain ⟨v,k1,k2⟩:=ih e ci y.1 y.2 he hy
       exact ⟨v,k1,ci,rfl,k2⟩
     obtain ⟨css,hlen,hcss⟩:=pick len hel
     have hall:∀ c ∈ css,OfT P n e c:=fun c hc=>by
      obtain ⟨i,hi⟩:=List.getElem?_of_mem hc
      exact (hcss i c hi).1
     refine ⟨[.lst false (css.map (mkE P e))],⟨by simpa using h1.symm,rfl,by rw [hu];exact ⟨css,rfl,by omega,hall⟩⟩,.cons _ _ _ _ ?_ .nil⟩
     by_cases h0:css=[]
     ·subst h0
      simp at hlen
      subst hlen
      exact .lst0 false (some a) cap (by simp)
     ·obtain ⟨ws,hw1,hw2⟩:=row_cells (g:=⟨fun _=>none,Z⟩) (w:=w) (base:=base) (es:=P.cellsOf e) (a:=a) rfl rfl css 0 fun j v hv=>by
       obtain ⟨_,ci,k1,k2⟩:=hcss j v hv
       exact ⟨ci,by simpa using k1,k2⟩
      have hfl:(css.map (mkE P e)).flatMap FV.cells=css.flatten:=by
       clear hw1 hw2 hcss hel hm h0 hlen
       induction css with
       |nil=>rfl
       |cons c css ihc =>
        simp only [List.map_cons,List.flatMap_cons,List.flatten_cons]
        rw [(cells_mkE (hall c (by simp)) hag).1,ihc fun c hc=>hall c (by simp [hc])]
      have hsp:a=⟨a.block,a.off,none⟩∧a.block < w.heap.size:=by
       obtain ⟨c0,r0,rfl⟩:∃ c0 r0,css=c0::r0:=by
        cases css with
        |nil=>exact absurd rfl h0
        |cons c r=>exact ⟨c,r,rfl⟩
       obtain ⟨hh,ci,k1,k2⟩:=hcss 0 c0 rfl
       obtain ⟨_,k3,k4⟩:=World.cells?_some k1
       have k5:=k4 0 hpos
       simp only [Nat.zero_mul,Addr.add,if_true] at k5
       have k6:∃ x,ci[0]? = some x:=⟨ci[0],List.getElem?_eq_getElem (by omega)⟩
       obtain ⟨x,k6⟩:=k6
       rw [k6] at k5
       refine ⟨?_,(cell_spot k5).2⟩
       unfold World.cell? at k5
       split at k5
       ·split at k5
        ·cases k5
        ·rename_i hs
         obtain ⟨b,o,s⟩:=a
         cases s with
         |none=>rfl
         |some s=>simp at hs
       ·cases k5
      have hl:len=(css.map (mkE P e)).length:=by simp [hlen]
      rw [hl,hsp.1]
      refine .lst false (css.map (mkE P e)) a.block a.off (P.cellsOf e) cap ws (by simpa using h0) (by simp) (by rw [← hl];exact hx2) (hZ _ hsp.2) hpos ?_ (by rw [hfl];exact hw1) fun j v hv=>by simpa using hw2 j v hv
      intro x hx
      obtain ⟨c,hc,rfl⟩:=List.mem_map.1 hx
      have:=cells_mkE (hall c hc) hag
      exact ⟨by rw [this.1];exact (hall c hc).length,this.2⟩
   |struct fs =>
    simp only [Bool.and_eq_true,List.all_eq_true,List.contains_iff_mem] at hc
    obtain ⟨hf,htile⟩:=hc
    simp only at h
    split at h
    ·rename_i hlen
     cases hm:fs.toList.mapM (fun f=>DataW.trod enc P w base spare held n f.type ((cs.drop f.offset).take (P.cellsOf f.type))) with
     |none=>rw [hm] at h;cases h
     |some xs =>
      have hall:=mapM_each hm
      have key:∀ (fl:List Field) (off:Nat),(∀ f ∈ fl,f.type ∈ ts∧∃ y,DataW.trod enc P w base spare held n f.type ((cs.drop f.offset).take (P.cellsOf f.type))=some y)→tile P off fl (P.cellsOf t)=true→off ≤ cs.length →
        ∃ vs,RL ⟨fun _=>none,Z⟩ w vs (cs.drop off)∧vs.all FV.one=true∧∀ f ∈ fl,off ≤ f.offset∧OfT P n f.type ((vs.drop (f.offset - off)).take (P.cellsOf f.type)):=by
       intro fl
       induction fl with
       |nil =>
        intro off _ ht' hoff
        simp only [tile,decide_eq_true_eq] at ht'
        refine ⟨[],?_,rfl,by simp⟩
        rw [List.drop_eq_nil_of_le (by omega)]
        exact .nil
       |cons f fl ihf =>
        intro off hfl ht' hoff
        simp only [tile,Bool.and_eq_true,decide_eq_true_eq] at ht'
        obtain ⟨ho,ht'⟩:=ht'
        obtain ⟨hft,y,hy⟩:=hfl f (by simp)
        obtain ⟨v,hv1,hv2⟩:=ih _ _ y.1 y.2 hft hy
        have hvl:=hv1.length
        have hl2:=hv2.length
        rw [List.length_take,List.length_drop] at hl2
        obtain ⟨vs,k1,k2,k3⟩:=ihf (off + P.cellsOf f.type) (fun g hg=>hfl g (by simp [hg])) ht' (by omega)
        refine ⟨v ++ vs,?_,by rw [List.all_append,hv1.all1,k2];rfl,?_⟩
        ·have e:cs.drop off=(cs.drop f.offset).take (P.cellsOf f.type) ++ cs.drop (off + P.cellsOf f.type):=by
          rw [ho,← List.drop_drop]
          exact (List.take_append_drop _ _).symm
         rw [e]
         exact RL.append hv2 k1
        ·intro g hg
         cases hg with
         |head =>
          refine ⟨by omega,?_⟩
          rw [ho,Nat.sub_self,List.drop_zero,← hvl,List.take_left]
          exact hv1
         |tail _ hg =>
          obtain ⟨k4,k5⟩:=k3 g hg
          refine ⟨by omega,?_⟩
          rw [List.drop_append,List.drop_eq_nil_of_le (by omega),List.nil_append,show g.offset - off - v.length=g.offset - (off + P.cellsOf f.type) by omega]
          exact k5
      obtain ⟨vs,k1,k2,k3⟩:=key fs.toList 0 (fun f hf'=>⟨hf f hf',hall f hf'⟩) htile (Nat.zero_le _)
      refine ⟨vs,⟨?_,k2,by rw [hu];exact fun f hf'=>by simpa using (k3 f hf').2⟩,by simpa using k1⟩
      rw [k1.length];simpa using hlen
    ·cases h
   |array m e =>
    simp only [Bool.and_eq_true,decide_eq_true_eq,List.contains_iff_mem] at hc
    obtain ⟨he,hsz⟩:=hc
    simp only at h
    split at h
    ·rename_i hlen
     cases hm:(List.range m).mapM (fun i=>DataW.trod enc P w base spare held n e ((cs.drop (i * P.cellsOf e)).take (P.cellsOf e))) with
     |none=>rw [hm] at h;cases h
     |some xs =>
      have key:∀ (k:Nat),k ≤ m→∃ vs,RL ⟨fun _=>none,Z⟩ w vs (cs.take (k * P.cellsOf e))∧vs.all FV.one=true∧vs.length=k * P.cellsOf e∧∀ i,i < k→OfT P n e ((vs.drop (i * P.cellsOf e)).take (P.cellsOf e)):=by
       intro k
       induction k with
       |zero=>intro _;exact ⟨[],by rw [Nat.zero_mul,List.take_zero];exact .nil,rfl,by simp,by simp⟩
       |succ k ihk =>
        intro hk
        obtain ⟨vs,k1,k2,k3,k4⟩:=ihk (by omega)
        obtain ⟨y,hy⟩:=mapM_each hm k (List.mem_range.2 (by omega))
        obtain ⟨v,hv1,hv2⟩:=ih _ _ y.1 y.2 he hy
        have hvl:=hv1.length
        refine ⟨vs ++ v,?_,by rw [List.all_append,hv1.all1,k2];rfl,by rw [List.length_append,k3,hvl,Nat.add_mul,Nat.one_mul],fun i hi=>?_⟩
        ·rw [Nat.add_mul,Nat.one_mul,List.take_add]
         exact RL.append k1 hv2
        ·by_cases hik:i < k
         ·have hle:i * P.cellsOf e + P.cellsOf e ≤ vs.length:=by
           rw [k3,← Nat.succ_mul]
           exact Nat.mul_le_mul_right _ hik
          rw [List.drop_append_of_le_length (by omega),List.take_append_of_le_length (by rw [List.length_drop];omega)]
          exact k4 i hik
         ·have:i=k:=by omega
          subst this
          rw [← k3,List.drop_left,← hvl,List.take_length]
          exact hv1
      obtain ⟨vs,k1,k2,k3,k4⟩:=key m (Nat.le_refl _)
      refine ⟨vs,⟨by rw [k3,hsz],k2,by rw [hu];exact k4⟩,?_⟩
      rw [List.take_of_length_le (by omega)] at k1
      exact k1
    ·cases h
   |_=>cases hc
end Go.FI
