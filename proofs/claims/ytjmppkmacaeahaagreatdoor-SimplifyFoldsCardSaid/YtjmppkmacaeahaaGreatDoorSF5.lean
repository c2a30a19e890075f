/- Parts of the proof, one behind the other. -/
import Derived.Test.YtjmppkmacaeahaaGreatDoorSF1
import Derived.ChangeShapes
import Derived.ChangeSame
import Derived.Test.YtjmppkmacaeahaaGreatDoorSF3
import Derived.Carry
import Derived.OpenShut
import Derived.Test.YtjmppkmacaeahaaGreatDoorSF4
set_option linter.all false
namespace Go.FI
open Go.RowKit Go.ChangeShapes
variable [Sys]
def isAgg (P:Program) (t:TypeId):Bool :=
 match P.underlying t with
 |some (.struct _) | some (.array _ _)=>true
 |_=>false
def mkE (P:Program) (e:TypeId) (cs:List FV):FV:=if isAgg P e=true then .agg cs else cs.headD .undef
def OfT (P:Program):Nat→TypeId→List FV→Prop
 |0,_,_=>False
 |n + 1,t,cs=>cs.length=P.cellsOf t∧(cs.all FV.one=true)∧match P.underlying t with
  |some .bool=>∃ b,cs=[.bool b]
  |some (.int k)=>∃ x,cs=[.int k x]∧k.min ≤ x∧x ≤ k.max
  |some .string=>∃ s,cs=[.str s]∧s.length ≤ maxLen
  |some (.slice e)=>∃ css:List (List FV),cs=[.lst false (css.map (mkE P e))]∧css.length ≤ maxLen∧∀ c ∈ css,OfT P n e c
  |some (.struct fs)=>∀ f ∈ fs.toList,OfT P n f.type ((cs.drop f.offset).take (P.cellsOf f.type))
  |some (.array m e)=>∀ i,i < m→OfT P n e ((cs.drop (i * P.cellsOf e)).take (P.cellsOf e))
  |_=>False
def tile (P:Program):Nat→List Field→Nat→Bool
 |off,[],n=>decide (off=n)
 |off,f::fs,n=>decide (f.offset=off) && tile P (off + P.cellsOf f.type) fs n
def closed1 (P:Program) (ts:List TypeId) (t:TypeId):Bool :=
 match P.underlying t with
 |some .bool | some (.int _) | some .string=>decide (P.cellsOf t=1)
 |some (.slice e)=>decide (P.cellsOf t=1) && ts.contains e && decide (0 < P.cellsOf e) && (isAgg P e || decide (P.cellsOf e=1))
 |some (.struct fs)=>(fs.toList.all fun f=>ts.contains f.type) && tile P 0 fs.toList (P.cellsOf t)
 |some (.array m e)=>ts.contains e && decide (P.cellsOf t=m * P.cellsOf e)
 |_=>false
def closed (P:Program) (ts:List TypeId):Bool:=ts.all (closed1 P ts)
theorem OfT.length {P:Program} {n:Nat} {t:TypeId} {cs:List FV} (h:OfT P n t cs):cs.length=P.cellsOf t:=by
 cases n with
 |zero=>cases h
 |succ n=>exact h.1
theorem OfT.all1 {P:Program} {n:Nat} {t:TypeId} {cs:List FV} (h:OfT P n t cs):cs.all FV.one=true:=by
 cases n with
 |zero=>cases h
 |succ n=>exact h.2.1
theorem cells_mkE {P:Program} {n:Nat} {e:TypeId} {cs:List FV} (h:OfT P n e cs) (he:isAgg P e=true ∨ P.cellsOf e=1):(mkE P e cs).cells=cs∧(mkE P e cs).ok=true:=by
 unfold mkE
 split
 ·exact ⟨rfl,h.all1⟩
 ·rename_i hn
  have h1:=h.length
  have h2:=h.all1
  rcases he with he | he
  ·exact absurd he hn
  ·rw [he] at h1
   match cs,h1 with
   |[x],_ =>
    simp only [List.all_cons,List.all_nil,Bool.and_true] at h2
    cases x<;>first | (exact ⟨rfl,rfl⟩) | (simp [FV.one] at h2)
theorem pick {α:Type} {p:Nat→α→Prop}:∀ (n:Nat),(∀ i,i < n→∃ v,p i v)→∃ l:List α,l.length=n∧∀ i v,l[i]? = some v→p i v:=by
 intro n
 induction n with
 |zero=>intro _;exact ⟨[],rfl,by simp⟩
 |succ n ih =>
  intro h
  obtain ⟨l,h1,h2⟩:=ih fun i hi=>h i (by omega)
  obtain ⟨v,hv⟩:=h n (by omega)
  refine ⟨l ++ [v],by simp [h1],fun i u hu=>?_⟩
  rw [List.getElem?_append] at hu
  split at hu
  ·exact h2 i u hu
  ·rename_i hi
   have:i=n:=by
    have:=(List.getElem?_eq_some_iff.1 hu).1
    simp at this;omega
   subst this
   simp [h1] at hu
   subst hu
   exact hv
theorem mapM_each {α β:Type} {f:α→Option β}:∀ {l:List α} {ys:List β},l.mapM f=some ys→∀ x ∈ l,∃ y,f x=some y:=by
 intro l
 induction l with
 |nil=>intro ys _ x hx;cases hx
 |cons a l ih =>
  intro ys h x hx
  rw [List.mapM_cons] at h
  cases ha:f a with
  |none=>rw [ha] at h;cases h
  |some y =>
   rw [ha] at h
   cases hl:l.mapM f with
   |none=>rw [hl] at h;cases h
   |some zs =>
    cases hx with
    |head=>exact ⟨y,ha⟩
    |tail _ hx=>exact ih hl x hx
theorem cell_spot {w:World} {a:Addr} {v:Value} (h:w.cell? a=some v):w.cell? ⟨a.block,a.off,none⟩=some v∧a.block < w.heap.size:=by
 unfold World.cell? at h ⊢
 split at h
 ·rename_i c _ _ hb
  split at h
  ·cases h
  ·simp only [hb]
   refine ⟨h,?_⟩
   exact (Array.getElem?_eq_some_iff.1 hb).1
 ·cases h
theorem add_off (a:Addr) (n:Nat):(a.add n).block=a.block∧(a.add n).off=a.off + n:=by
 unfold Addr.add
 split
 ·rename_i h;subst h;exact ⟨rfl,rfl⟩
 ·exact ⟨rfl,rfl⟩
theorem row_cells {g:Gh} {w:World} {base es b o:Nat} {a:Addr} (hb:a.block=b) (ho:a.off=o):∀ (css:List (List FV)) (i:Nat),
  (∀ j v,css[j]? = some v→∃ ci,w.cells? base (a.add ((i + j) * es)) es=some ci∧RL g w v ci) →
  ∃ ws,RL g w css.flatten ws∧∀ (j:Nat) v,ws[j]? = some v→w.cell? ⟨b,o + i * es + j,none⟩=some v:=by
 intro css
 induction css with
 |nil=>intro i _;exact ⟨[],.nil,by simp⟩
 |cons c css ih =>
  intro i h
  obtain ⟨ci,h1,h2⟩:=h 0 c rfl
  obtain ⟨ws,h3,h4⟩:=ih (i + 1) fun j v hv=>by
   obtain ⟨cj,k1,k2⟩:=h (j + 1) v (by simpa using hv)
   exact ⟨cj,by rw [show i + 1 + j=i + (j + 1) by omega];exact k1,k2⟩
  obtain ⟨_,h5,h6⟩:=World.cells?_some h1
  refine ⟨ci ++ ws,RL.append h2 h3,fun j v hv=>?_⟩
  rw [List.getElem?_append] at hv
  split at hv
  ·rename_i hj
   have h7:=h6 j (by omega)
   rw [hv] at h7
   have h8:=(cell_spot h7).1
   rw [(add_off _ _).1,(add_off _ _).2,(add_off _ _).1,(add_off _ _).2,hb,ho] at h8
   simpa using h8
  ·rename_i hj
   have:=h4 (j - ci.length) v hv
   rw [h5] at this
   have e:o + (i + 1) * es + (j - es)=o + i * es + j:=by
    rw [h5] at hj
    rw [Nat.add_mul]
    omega
   rw [e] at this
   exact this
theorem trod_strL {H:Type} {enc:TypeId × Value→H} {P:Program} {w:World} {base:Nat} {spare:Nat→Bool} {held:Bool} {n:Nat} {t:TypeId} {cs:List Value} {x:DataW H × List MemPlace} (hu:P.underlying t=some .string) (h:DataW.trod enc P w base spare held n t cs=some x) :
  ∃ s,cs=[.string s]∧s.size ≤ maxLen∧x=(.lit (.string s.data.toList),[]):=by
 cases n with
 |zero=>simp [DataW.trod] at h
 |succ n =>
  unfold DataW.trod at h
  rw [hu] at h
  rcases cs with _ | ⟨v,_ | ⟨v2,r⟩⟩
  ·simp at h
  ·cases v<;>simp only at h<;>try (first | (cases h;done) | (simp at h;done))
   split at h
   ·rename_i hs
    cases h
    exact ⟨_,rfl,hs,rfl⟩
   ·cases h
  ·cases v<;>simp at h
theorem trod_sliceL {H:Type} {enc:TypeId × Value→H} {P:Program} {w:World} {base:Nat} {spare:Nat→Bool} {held:Bool} {n:Nat} {t e:TypeId} {cs:List Value} {x:DataW H × List MemPlace} (hu:P.underlying t=some (.slice e)) (h:DataW.trod enc P w base spare held (n + 1) t cs=some x) :
  cs=[.slice none 0 0] ∨ ∃ (a:Addr) (len cap:Nat) (els:List (DataW H × List MemPlace)),cs=[.slice (some a) len cap]∧len ≤ cap∧cap ≤ maxLen ∧
   (List.range len).mapM (fun i=>(w.cells? base (a.add (i * P.cellsOf e)) (P.cellsOf e)).bind (DataW.trod enc P w base spare held n e))=some els:=by
 unfold DataW.trod at h
 rw [hu] at h
 rcases cs with _ | ⟨v,_ | ⟨v2,r⟩⟩
 ·simp at h
 ·cases v
  case slice o len cap =>
   cases o with
   |none=>cases len<;>cases cap<;>first | exact .inl rfl | (simp at h)
   |some a =>
    simp only at h
    split at h
    ·rename_i hx
     refine .inr ⟨a,len,cap,?_⟩
     cases hm:(List.range len).mapM (fun i=>(w.cells? base (a.add (i * P.cellsOf e)) (P.cellsOf e)).bind (DataW.trod enc P w base spare held n e)) with
     |none=>rw [hm] at h;cases h
     |some els=>exact ⟨els,rfl,hx.2.1,hx.2.2,rfl⟩
    ·cases h
  all_goals simp at h
 ·cases v<;>simp at h
theorem opens {H:Type} {enc:TypeId × Value→H} {P:Program} {w:World} {base:Nat} {spare:Nat→Bool} {held:Bool} {Z:Nat→Prop} (hZ:∀ b,b < w.heap.size→Z b) {ts:List TypeId} (hcl:closed P ts=true) :
  ∀ (n:Nat) (t:TypeId) (cs:List Value) (d:DataW H) (ps:List MemPlace),t ∈ ts→DataW.trod enc P w base spare held n t cs=some (d,ps) →
   ∃ vs,OfT P n t vs∧RL ⟨fun _=>none,Z⟩ w vs cs:=by
 intro n
 induction n with
 |zero=>intro t cs d ps _ h;simp [DataW.trod] at h
 |succ n ih =>
  intro t cs d ps ht h
  have hc:closed1 P ts t=true:=by
   unfold closed at hcl
   exact List.all_eq_true.1 hcl t ht
  unfold closed1 at hc
  have h0:=h
  unfold DataW.trod at h
  cases hu:P.underlying t with
  |none=>rw [hu] at hc;cases hc
  |some u =>
   rw [hu] at hc h
   cases u with
   |bool =>
    simp only [decide_eq_true_eq] at hc
    obtain ⟨b,rfl,_⟩:=DataW.trod_bool hu h0
    exact ⟨[.bool b],⟨by simpa using hc.symm,rfl,by rw [hu];exact ⟨b,rfl⟩⟩,.cons _ _ _ _ (.bool b) .nil⟩
   |int k =>
    simp only [decide_eq_true_eq] at hc
    obtain ⟨x,rfl,_,hw⟩:=DataW.trod_int hu h0
    have hb:k.min ≤ x∧x ≤ k.max:=by simpa [Lit.wf] using hw
    exact ⟨[.int k x],⟨by simpa using hc.symm,rfl,by rw [hu];exact ⟨x,rfl,hb⟩⟩,.cons _ _ _ _ (.int k x) .nil⟩
   |string =>
    simp only [decide_eq_true_eq] at hc
    obtain ⟨s,rfl,hs,_⟩:=trod_strL hu h0
    exact ⟨[.str s.data.toList],⟨by simpa using hc.symm,rfl,by rw [hu];exact ⟨_,rfl,by simpa using hs⟩⟩,.cons _ _ _ _ (.str s) .nil⟩
   |slice e =>
    simp only [Bool.and_eq_true,decide_eq_true_eq,Bool.or_eq_true,List.contains_iff_mem] at hc
    obtain ⟨⟨⟨h1,he⟩,hpos⟩,hag⟩:=hc
    rcases trod_sliceL hu h0 with rfl | ⟨a,len,cap,els,rfl,hx2,hx3,hm⟩
    ·exact ⟨[.lst false []],⟨by simpa using h1.symm,rfl,by rw [hu];exact ⟨[],rfl,by simp,by simp⟩⟩,.cons _ _ _ _ (.lst0 false none 0 (by simp)) .nil⟩
    ·have hel:∀ i,i < len→∃ v,OfT P n e v∧∃ ci,w.cells? base (a.add (i * P.cellsOf e)) (P.cellsOf e)=some ci∧RL ⟨fun _=>none,Z⟩ w v ci:=by
      intro i hi
      obtain ⟨y,hy⟩:=mapM_each hm i (by simpa using hi)
      cases hcs:w.cells? base (a.add (i * P.cellsOf e)) (P.cellsOf e) with
      |none=>rw [hcs] at hy;cases hy
      |some ci =>
       rw [hcs] at hy
       obtain ⟨v,k1,k2⟩:=ih e ci y.1 y.2 he hy
       exact ⟨v,k1,ci,rfl,k2⟩
     obtain ⟨css,hlen,hcss⟩:=pick len hel
     have hall:∀ c ∈ css,OfT P n e c:=fun c hc=>by
      obtain ⟨i,hi⟩:=List.getElem?_of_mem hc
      exact (hcss i c hi).1
     refine ⟨[.lst false (css.map (mkE P e))],⟨by simpa using h1.symm,rfl,by rw [hu];exact ⟨css,rfl,by omega,hall⟩⟩,.cons _ _ _ _ ?_ .nil⟩
     by_cases h0:css=[]
     ·subst h0
      simp at hlen
      subst hlen
      exact .lst0 false (some a) cap (by simp)
     ·obtain ⟨ws,hw1,hw2⟩:=row_cells (g:=⟨fun _=>none,Z⟩) (w:=w) (base:=base) (es:=P.cellsOf e) (a:=a) rfl rfl css 0 fun j v hv=>by
       obtain ⟨_,ci,k1,k2⟩:=hcss j v hv
       exact ⟨ci,by simpa using k1,k2⟩
      have hfl:(css.map (mkE P e)).flatMap FV.cells=css.flatten:=by
       clear hw1 hw2 hcss hel hm h0 hlen
       induction css with
       |nil=>rfl
       |cons c css ihc =>
        simp only [List.map_cons,List.flatMap_cons,List.flatten_cons]
        rw [(cells_mkE (hall c (by simp)) hag).1,ihc fun c hc=>hall c (by simp [hc])]
      have hsp:a=⟨a.block,a.off,none⟩∧a.block < w.heap.size:=by
       obtain ⟨c0,r0,rfl⟩:∃ c0 r0,css=c0::r0:=by
        cases css with
        |nil=>exact absurd rfl h0
        |cons c r=>exact ⟨c,r,rfl⟩
       obtain ⟨hh,ci,k1,k2⟩:=hcss 0 c0 rfl
       obtain ⟨_,k3,k4⟩:=World.cells?_some k1
       have k5:=k4 0 hpos
       simp only [Nat.zero_mul,Addr.add,if_true] at k5
       have k6:∃ x,ci[0]? = some x:=⟨ci[0],List.getElem?_eq_getElem (by omega)⟩
       obtain ⟨x,k6⟩:=k6
       rw [k6] at k5
       refine ⟨?_,(cell_spot k5).2⟩
       unfold World.cell? at k5
       split at k5
       ·split at k5
        ·cases k5
        ·rename_i hs
         obtain ⟨b,o,s⟩:=a
         cases s with
         |none=>rfl
         |some s=>simp at hs
       ·cases k5
      have hl:len=(css.map (mkE P e)).length:=by simp [hlen]
      rw [hl,hsp.1]
      refine .lst false (css.map (mkE P e)) a.block a.off (P.cellsOf e) cap ws (by simpa using h0) (by simp) (by rw [← hl];exact hx2) (hZ _ hsp.2) hpos ?_ (by rw [hfl];exact hw1) fun j v hv=>by simpa using hw2 j v hv
      intro x hx
      obtain ⟨c,hc,rfl⟩:=List.mem_map.1 hx
      have:=cells_mkE (hall c hc) hag
      exact ⟨by rw [this.1];exact (hall c hc).length,this.2⟩
   |struct fs =>
    simp only [Bool.and_eq_true,List.all_eq_true,List.contains_iff_mem] at hc
    obtain ⟨hf,htile⟩:=hc
    simp only at h
    split at h
    ·rename_i hlen
     cases hm:fs.toList.mapM (fun f=>DataW.trod enc P w base spare held n f.type ((cs.drop f.offset).take (P.cellsOf f.type))) with
     |none=>rw [hm] at h;cases h
     |some xs =>
      have hall:=mapM_each hm
      have key:∀ (fl:List Field) (off:Nat),(∀ f ∈ fl,f.type ∈ ts∧∃ y,DataW.trod enc P w base spare held n f.type ((cs.drop f.offset).take (P.cellsOf f.type))=some y)→tile P off fl (P.cellsOf t)=true→off ≤ cs.length →
        ∃ vs,RL ⟨fun _=>none,Z⟩ w vs (cs.drop off)∧vs.all FV.one=true∧∀ f ∈ fl,off ≤ f.offset∧OfT P n f.type ((vs.drop (f.offset - off)).take (P.cellsOf f.type)):=by
       intro fl
       induction fl with
       |nil =>
        intro off _ ht' hoff
        simp only [tile,decide_eq_true_eq] at ht'
        refine ⟨[],?_,rfl,by simp⟩
        rw [List.drop_eq_nil_of_le (by omega)]
        exact .nil
       |cons f fl ihf =>
        intro off hfl ht' hoff
        simp only [tile,Bool.and_eq_true,decide_eq_true_eq] at ht'
        obtain ⟨ho,ht'⟩:=ht'
        obtain ⟨hft,y,hy⟩:=hfl f (by simp)
        obtain ⟨v,hv1,hv2⟩:=ih _ _ y.1 y.2 hft hy
        have hvl:=hv1.length
        have hl2:=hv2.length
        rw [List.length_take,List.length_drop] at hl2
        obtain ⟨vs,k1,k2,k3⟩:=ihf (off + P.cellsOf f.type) (fun g hg=>hfl g (by simp [hg])) ht' (by omega)
        refine ⟨v ++ vs,?_,by rw [List.all_append,hv1.all1,k2];rfl,?_⟩
        ·have e:cs.drop off=(cs.drop f.offset).take (P.cellsOf f.type) ++ cs.drop (off + P.cellsOf f.type):=by
          rw [ho,← List.drop_drop]
          exact (List.take_append_drop _ _).symm
         rw [e]
         exact RL.append hv2 k1
        ·intro g hg
         cases hg with
         |head =>
          refine ⟨by omega,?_⟩
          rw [ho,Nat.sub_self,List.drop_zero,← hvl,List.take_left]
          exact hv1
         |tail _ hg =>
          obtain ⟨k4,k5⟩:=k3 g hg
          refine ⟨by omega,?_⟩
          rw [List.drop_append,List.drop_eq_nil_of_le (by omega),List.nil_append,show g.offset - off - v.length=g.offset - (off + P.cellsOf f.type) by omega]
          exact k5
      obtain ⟨vs,k1,k2,k3⟩:=key fs.toList 0 (fun f hf'=>⟨hf f hf',hall f hf'⟩) htile (Nat.zero_le _)
      refine ⟨vs,⟨?_,k2,by rw [hu];exact fun f hf'=>by simpa using (k3 f hf').2⟩,by simpa using k1⟩
      rw [k1.length];simpa using hlen
    ·cases h
   |array m e =>
    simp only [Bool.and_eq_true,decide_eq_true_eq,List.contains_iff_mem] at hc
    obtain ⟨he,hsz⟩:=hc
    simp only at h
    split at h
    ·rename_i hlen
     cases hm:(List.range m).mapM (fun i=>DataW.trod enc P w base spare held n e ((cs.drop (i * P.cellsOf e)).take (P.cellsOf e))) with
     |none=>rw [hm] at h;cases h
     |some xs =>
      have key:∀ (k:Nat),k ≤ m→∃ vs,RL ⟨fun _=>none,Z⟩ w vs (cs.take (k * P.cellsOf e))∧vs.all FV.one=true∧vs.length=k * P.cellsOf e∧∀ i,i < k→OfT P n e ((vs.drop (i * P.cellsOf e)).take (P.cellsOf e)):=by
       intro k
       induction k with
       |zero=>intro _;exact ⟨[],by rw [Nat.zero_mul,List.take_zero];exact .nil,rfl,by simp,by simp⟩
       |succ k ihk =>
        intro hk
        obtain ⟨vs,k1,k2,k3,k4⟩:=ihk (by omega)
        obtain ⟨y,hy⟩:=mapM_each hm k (List.mem_range.2 (by omega))
        obtain ⟨v,hv1,hv2⟩:=ih _ _ y.1 y.2 he hy
        have hvl:=hv1.length
        refine ⟨vs ++ v,?_,by rw [List.all_append,hv1.all1,k2];rfl,by rw [List.length_append,k3,hvl,Nat.add_mul,Nat.one_mul],fun i hi=>?_⟩
        ·rw [Nat.add_mul,Nat.one_mul,List.take_add]
         exact RL.append k1 hv2
        ·by_cases hik:i < k
         ·have hle:i * P.cellsOf e + P.cellsOf e ≤ vs.length:=by
           rw [k3,← Nat.succ_mul]
           exact Nat.mul_le_mul_right _ hik
          rw [List.drop_append_of_le_length (by omega),List.take_append_of_le_length (by rw [List.length_drop];omega)]
          exact k4 i hik
         ·have:i=k:=by omega
          subst this
          rw [← k3,List.drop_left,← hvl,List.take_length]
          exact hv1
      obtain ⟨vs,k1,k2,k3,k4⟩:=key m (Nat.le_refl _)
      refine ⟨vs,⟨by rw [k3,hsz],k2,by rw [hu];exact k4⟩,?_⟩
      rw [List.take_of_length_le (by omega)] at k1
      exact k1
    ·cases h
   |_=>cases hc
end Go.FI
namespace Go.FI
open Go.RowKit Go.ChangeShapes
variable [Sys]
def OfTs (P:Program):List TypeId→List FV→Prop
 |[],[]=>True
 |t::ts,v::vs=>(∃ n cs,OfT P n t cs∧v=mkE P t cs)∧OfTs P ts vs
 |_,_=>False
theorem R_mkE {g:Gh} {w:World} {P:Program} {b n:Nat} {t:TypeId} {vs:List FV} {v:Value} (hc:isAgg P t=true ∨ P.cellsOf t=1) (hok:Value.okWide P w .any b t v) (hv:OfT P n t vs) (hr:RL g w vs v.cells.toList):R g w (mkE P t vs) v:=by
 unfold mkE
 split
 ·rename_i ha
  have:∃ cs,v=.agg cs:=by
   unfold isAgg at ha
   unfold Value.okWide at hok
   split at ha
   ·rename_i h;rw [h] at hok;obtain ⟨cs,h,_⟩:=hok;exact ⟨cs,h⟩
   ·rename_i h;rw [h] at hok;obtain ⟨cs,h,_⟩:=hok;exact ⟨cs,h⟩
   ·cases ha
  obtain ⟨cs,rfl⟩:=this
  have:=R.agg vs cs.toList hr
  simpa using this
 ·rename_i ha
  have h1:vs.length=1:=by
   rcases hc with hc | hc
   ·exact absurd hc ha
   ·rw [hv.length,hc]
  match vs,h1 with
  |[x],_ =>
   have:v.cells=#[v]:=by
    cases v<;>try rfl
    exfalso
    unfold Value.okWide Cell.okWide Cell.ok at hok
    unfold isAgg at ha
    split at hok
    ·rename_i h;rw [h] at ha;simp at ha
    ·rename_i h;rw [h] at ha;simp at ha
    ·split at hok<;>simp_all
   rw [this] at hr
   cases hr with | cons _ _ _ _ hx _=>exact hx
theorem closed_one {P:Program} {ts:List TypeId} (hcl:closed P ts=true) {t:TypeId} (ht:t ∈ ts):isAgg P t=true ∨ P.cellsOf t=1:=by
 have hc:closed1 P ts t=true:=by
  unfold closed at hcl
  exact List.all_eq_true.1 hcl t ht
 unfold closed1 at hc
 unfold isAgg
 split at hc<;>rename_i h<;>simp_all
theorem open_all {H:Type} {enc:TypeId × Value→H} {P:Program} {w:World} {spare:Nat→Bool} {held:Bool} {ts:List TypeId} (hcl:closed P ts=true) :
  ∀ (params:List TypeId) (vs:List Value) (ds:List (DataW H)) (ps:List MemPlace),(∀ t ∈ params,t ∈ ts)→(∀ (j:Nat) t v,params[j]? = some t→vs[j]? = some v→∃ b,Value.okWide P w .any b t v) →
   DataW.TrodAll enc P w 0 spare held params vs ds ps→∃ fs,OfTs P params fs∧RL ⟨fun _=>none,(· < w.heap.size)⟩ w fs vs:=by
 intro params
 induction params with
 |nil =>
  intro vs ds ps _ _ h
  cases vs with
  |nil=>exact ⟨[],trivial,.nil⟩
  |cons v vs=>cases ds<;>cases h
 |cons t params ih =>
  intro vs ds ps hts hok h
  cases vs with
  |nil=>cases ds<;>cases h
  |cons v vs =>
   cases ds with
   |nil=>cases h
   |cons d ds =>
    obtain ⟨p,q,⟨n,h1⟩,h2,rfl⟩:=h
    obtain ⟨fs,h3,h4⟩:=ih vs ds q (fun t ht=>hts t (by simp [ht])) (fun j t v hj hv=>hok (j + 1) t v (by simpa using hj) (by simpa using hv)) h2
    obtain ⟨b,hb⟩:=hok 0 t v rfl rfl
    obtain ⟨cs,h5,h6⟩:=opens (Z:=(· < w.heap.size)) (fun b h=>h) hcl n t _ d p (hts t (by simp)) h1
    exact ⟨mkE P t cs::fs,⟨⟨n,cs,h5,rfl⟩,h3⟩,.cons _ _ _ _ (R_mkE (closed_one hcl (hts t (by simp))) hb h5 h6) h4⟩
theorem trodAll_below {H:Type} {enc:TypeId × Value→H} {P:Program} (hl:laidOutB P=true) {W W':World} (hb:Below W.heap.size W W') :
  ∀ (params:List TypeId) (vs:List Value) (ds:List (DataW H)) (ps:List MemPlace),(params.all fun t=>P.readableRec t && decide (t < P.types.size))=true→(∀ x ∈ ps,x.block < W.heap.size) →
   DataW.TrodAll enc P W 0 (fun _=>true) true params vs ds ps→DataW.TrodAll enc P W' 0 (fun b=>decide (b < W.heap.size)) true params vs ds ps:=by
 intro params
 induction params with
 |nil =>
  intro vs ds ps _ _ h
  cases vs<;>cases ds<;>exact h
 |cons t params ih =>
  intro vs ds ps hp hlt h
  simp only [List.all_cons,Bool.and_eq_true,decide_eq_true_eq] at hp
  cases vs with
  |nil=>cases ds<;>cases h
  |cons v vs =>
   cases ds with
   |nil=>cases h
   |cons d ds =>
    obtain ⟨p,q,h1,h2,rfl⟩:=h
    exact ⟨p,q,Below.trod hl hp.1.1 hp.1.2 h1 hb (fun x hx=>hlt x (by simp [hx])),ih vs ds q hp.2 (fun x hx=>hlt x (by simp [hx])) h2,rfl⟩
theorem contract_true {H:Type} {enc:TypeId × Value→H} {P:Program} {W:World} {base:Nat} {args:Array Value} {ds gs:List (DataW H)} {before:List MemPlace} {f:Func} {k:Nat} {s:ChangeSpec} {ts:List TypeId} {tb:TypeId}
  (hcl:closed P ts=true) (hts:(f.params.toList.all ts.contains)=true) (hlaid:laidOutB P=true) (hrd:(f.params.toList.all fun t=>P.readableRec t && decide (t < P.types.size))=true) (hr:f.resultTypes=#[tb]) (hb:P.underlying tb=some .bool) (hvars:s.vars=[])
  (hfn:∀ ds:List (DataW H),ds.length=f.params.size→(s.fn H ds).results=[.lit (.bool true)]∧(s.fn H ds).args=ds∧(s.fn H ds).vars=[])
  (hiso:∀ fs,OfTs P f.params.toList fs→IsoCall P k fs (.bool true))
  (hgl:GlOk ⟨fun _=>none,(· < W.heap.size)⟩ W) (hval:∀ (j:Nat) t v,f.params[j]? = some t→args[j]? = some v→Value.okWide P W .any base t v)
  (hW:DataW.Whole enc P f.params.toList s.vars false W args.toList ds gs before) :
  Calls P k args W fun e W'=>∃ v,e=.returned v∧s.post enc P f false true false false W args v W':=by
 have hlt:∀ x ∈ before,x.block < W.heap.size:=fun x hx=>by simpa using hW.lt x hx
 obtain ⟨p,q,hA,hV,rfl,hfz,hnd⟩:=hW
 have hVn:gs=[]∧q=[]:=by
  rw [hvars] at hV
  cases gs with
  |nil=>exact ⟨rfl,hV⟩
  |cons=>cases hV
 obtain ⟨rfl,rfl⟩:=hVn
 obtain ⟨fs,h1,h2⟩:=open_all hcl f.params.toList args.toList ds p (fun t ht=>by simpa using List.all_eq_true.1 hts t ht)
  (fun j t v hj hv=>⟨base,hval j t v (by simpa using hj) (by simpa using hv)⟩) hA
 have hc:=hiso fs h1 _ W args.toList (fun b h=>h) hgl h2
 have hlen:ds.length=f.params.size:=by
  have:∀ (params:List TypeId) (vs:List Value) (ds:List (DataW H)) (ps:List MemPlace),DataW.TrodAll enc P W 0 (fun _=>true) true params vs ds ps→ds.length=params.length:=by
   intro params
   induction params with
   |nil=>intro vs ds ps h;cases vs<;>cases ds<;>first | rfl | cases h
   |cons t params ih =>
    intro vs ds ps h
    cases vs with
    |nil=>cases ds<;>cases h
    |cons v vs =>
     cases ds with
     |nil=>cases h
     |cons d ds =>
      obtain ⟨_,_,_,h2,_⟩:=h
      simp [ih vs ds _ h2]
  simpa using this _ _ _ _ hA
 obtain ⟨hf1,hf2,hf3⟩:=hfn ds hlen
 have hargs:args.toList.toArray=args:=by simp
 rw [hargs] at hc
 refine hc.mono fun e W' ⟨x,he,hbelow,hx⟩=>?_
 subst he
 cases hx with
 |bool =>
 refine ⟨.bool true,rfl,ds,[],p ++ [],[],p,[],⟨p,[],hA,hV,rfl,hfz,hnd⟩,?_,?_,?_,?_,fun h=>by cases h⟩
 ·rw [List.append_nil,hf1,hr]
  exact trodAll_cons_mk (shut_bool hb _) trodAll_mk0
 ·rw [List.append_nil,hf2]
  exact trodAll_below hlaid hbelow _ _ _ _ hrd (fun x hx=>hlt x (by simp [hx])) hA
 ·rw [List.append_nil,hf3,hvars]
  rfl
 ·exact hbelow.frame _
end Go.FI
namespace Go.FI
variable [Sys]
def sliceOf (P:Program) (t:TypeId):Option TypeId:=match P.underlying t with | some (.slice e)=>some e | _=>none
def kindOf (P:Program) (t:TypeId):Option IntKind:=match P.underlying t with | some (.int k)=>some k | _=>none
def strT (P:Program) (t:TypeId):Bool:=match P.underlying t with | some .string=>true | _=>false
def boolT (P:Program) (t:TypeId):Bool:=match P.underlying t with | some .bool=>true | _=>false
def fldAt (P:Program) (t:TypeId) (i:Nat):Option (TypeId × Nat × Nat):=match P.underlying t with | some (.struct fs)=>fs.toList[i]?.map fun f=>(f.type,f.offset,P.cellsOf f.type) | _=>none
section
variable {P:Program} {n:Nat} {t:TypeId} {cs:List FV}
theorem OfT.slice {e:TypeId} (h:OfT P n t cs) (he:sliceOf P t=some e):∃ (m:Nat) (css:List (List FV)),cs=[.lst false (css.map (mkE P e))]∧css.length ≤ maxLen∧∀ c ∈ css,OfT P m e c:=by
 cases n with
 |zero=>cases h
 |succ n =>
  obtain ⟨_,_,h⟩:=h
  unfold sliceOf at he
  split at he
  ·rename_i hu
   cases he
   rw [hu] at h
   obtain ⟨css,h1,h2,h3⟩:=h
   exact ⟨n,css,h1,h2,h3⟩
  ·cases he
theorem OfT.int {k:IntKind} (h:OfT P n t cs) (hk:kindOf P t=some k):∃ x,cs=[.int k x]∧k.min ≤ x∧x ≤ k.max:=by
 cases n with
 |zero=>cases h
 |succ n =>
  obtain ⟨_,_,h⟩:=h
  unfold kindOf at hk
  split at hk
  ·rename_i hu
   cases hk
   rw [hu] at h
   exact h
  ·cases hk
theorem OfT.str (h:OfT P n t cs) (hk:strT P t=true):∃ s,cs=[.str s]∧s.length ≤ maxLen:=by
 cases n with
 |zero=>cases h
 |succ n =>
  obtain ⟨_,_,h⟩:=h
  unfold strT at hk
  split at hk
  ·rename_i hu
   rw [hu] at h
   exact h
  ·cases hk
theorem OfT.bool (h:OfT P n t cs) (hk:boolT P t=true):∃ b,cs=[.bool b]:=by
 cases n with
 |zero=>cases h
 |succ n =>
  obtain ⟨_,_,h⟩:=h
  unfold boolT at hk
  split at hk
  ·rename_i hu
   rw [hu] at h
   exact h
  ·cases hk
theorem OfT.field (h:OfT P n t cs) (i:Nat) {u off k:Nat} (hf:fldAt P t i=some (u,off,k)):∃ m,OfT P m u ((cs.drop off).take k):=by
 cases n with
 |zero=>cases h
 |succ n =>
  obtain ⟨_,_,h⟩:=h
  unfold fldAt at hf
  split at hf
  ·rename_i fs hu
   rw [hu] at h
   cases hx:fs.toList[i]? with
   |none=>rw [hx] at hf;cases hf
   |some f =>
    rw [hx] at hf
    cases hf
    exact ⟨n,h f (List.mem_of_getElem? hx)⟩
  ·cases hf
theorem OfT.len (h:OfT P n t cs) {k:Nat} (hk:P.cellsOf t=k):cs.length=k:=h.length.trans hk
theorem list_view {α β:Type} {mk:β→FV} {enc:α→FV} {good:α→Prop}:∀ {css:List β},(∀ c ∈ css,∃ a,mk c=enc a∧good a)→∃ l:List α,css.map mk=l.map enc∧l.length=css.length∧∀ a ∈ l,good a:=by
 intro css
 induction css with
 |nil=>intro _;exact ⟨[],rfl,rfl,by simp⟩
 |cons c css ih =>
  intro h
  obtain ⟨a,h1,h2⟩:=h c (by simp)
  obtain ⟨l,h3,h4,h5⟩:=ih fun c hc=>h c (by simp [hc])
  exact ⟨a::l,by simp [h1,h3],by simp [h4],by simpa using ⟨h2,h5⟩⟩
theorem mkE_agg (ha:isAgg P t=true):mkE P t cs=.agg cs:=if_pos ha
theorem mkE_one (ha:isAgg P t=false) {v:FV}:mkE P t [v]=v:=by
 unfold mkE
 rw [ha]
 rfl
theorem OfT.bools {e:TypeId} (h:OfT P n t cs) (he:sliceOf P t=some e) (hk:boolT P e=true) (ha:isAgg P e=false):∃ l:List Bool,cs=[.lst false (l.map .bool)]∧l.length ≤ maxLen:=by
 obtain ⟨m,css,rfl,h2,h3⟩:=h.slice he
 obtain ⟨l,h4,h5,_⟩:=list_view (css:=css) (mk:=mkE P e) (enc:=.bool) (good:=fun _=>True) fun c hc=>by
  obtain ⟨x,rfl⟩:=(h3 c hc).bool hk
  exact ⟨x,mkE_one ha,trivial⟩
 exact ⟨l,by rw [h4],by omega⟩
end
end Go.FI
namespace Go.FI
open Go.RowKit Go.ChangeShapes
mutual
def flatD {H:Type}:DataW H→Option (List FV)
 |.lit (.int k n)=>some [.int k n]
 |.lit (.string s)=>some [.str s]
 |.lit (.bool b)=>some [.bool b]
 |.agg ds=>flatDs ds
 |_=>none
def flatDs {H:Type}:List (DataW H)→Option (List FV)
 |[]=>some []
 |d::r=>bnd (flatD d) fun a=>bnd (flatDs r) fun b=>some (a ++ b)
end
def closedF (P:Program) (ts:List TypeId):Bool:=ts.all fun t=>match P.underlying t with
 |some .bool=>true
 |some (.int _)=>true
 |some .string=>true
 |some (.struct fs)=>(fs.toList.all fun f=>ts.contains f.type) && tile P 0 fs.toList (P.cellsOf t)
 |some (.array m e)=>ts.contains e && decide (P.cellsOf t=m * P.cellsOf e)
 |_=>false
variable [Sys]
theorem flat_opens {H:Type} {enc:TypeId × Value→H} {P:Program} {w:World} {base:Nat} {spare:Nat→Bool} {held:Bool} {g:Gh} {ts:List TypeId} (hcl:closedF P ts=true) :
  ∀ (n:Nat) (t:TypeId) (cs:List Value) (d:DataW H) (ps:List MemPlace),t ∈ ts→DataW.trod enc P w base spare held n t cs=some (d,ps)→∀ vs,flatD d=some vs→RL g w vs cs:=by
 intro n
 induction n with
 |zero=>intro t cs d ps _ h;simp [DataW.trod] at h
 |succ n ih =>
  intro t cs d ps ht h vs hv
  have hc:=List.all_eq_true.1 hcl t ht
  have h0:=h
  cases hu:P.underlying t with
  |none=>rw [hu] at hc;cases hc
  |some u =>
   rw [hu] at hc
   cases u with
   |bool =>
    obtain ⟨b,rfl,hd⟩:=DataW.trod_bool hu h0
    cases hd
    simp only [flatD,Option.some.injEq] at hv;subst hv
    exact .cons _ _ _ _ (.bool b) .nil
   |int k =>
    obtain ⟨x,rfl,hd,hw⟩:=DataW.trod_int hu h0
    cases hd
    simp only [flatD,Option.some.injEq] at hv;subst hv
    exact .cons _ _ _ _ (.int k x) .nil
   |string =>
    obtain ⟨s,rfl,hs,hd⟩:=trod_strL hu h0
    cases hd
    simp only [flatD,Option.some.injEq] at hv;subst hv
    exact .cons _ _ _ _ (.str s) .nil
   |struct fs =>
    simp only [Bool.and_eq_true,List.all_eq_true,List.contains_iff_mem] at hc
    obtain ⟨hf,htile⟩:=hc
    unfold DataW.trod at h
    rw [hu] at h
    simp only at h
    split at h
    ·rename_i hlen
     cases hm:fs.toList.mapM (fun f=>DataW.trod enc P w base spare held n f.type ((cs.drop f.offset).take (P.cellsOf f.type))) with
     |none=>rw [hm] at h;cases h
     |some xs =>
      rw [hm] at h
      have hd:d=.agg (xs.map (·.1)):=by
       cases h;rfl
      subst hd
      simp only [flatD] at hv
      have key:∀ (fl:List Field) (off:Nat) (xs:List (DataW H × List MemPlace)) (vs:List FV),(∀ f ∈ fl,f.type ∈ ts)→fl.mapM (fun f=>DataW.trod enc P w base spare held n f.type ((cs.drop f.offset).take (P.cellsOf f.type)))=some xs →
        tile P off fl (P.cellsOf t)=true→off ≤ cs.length→flatDs (xs.map (·.1))=some vs→RL g w vs (cs.drop off):=by
       intro fl
       induction fl with
       |nil =>
        intro off xs vs _ hm ht' hoff hv
        simp at hm;subst hm
        simp only [List.map_nil,flatDs,Option.some.injEq] at hv;subst hv
        simp only [tile,decide_eq_true_eq] at ht'
        rw [List.drop_eq_nil_of_le (by omega)]
        exact .nil
       |cons f fl ihf =>
        intro off xs vs hfl hm ht' hoff hv
        simp only [tile,Bool.and_eq_true,decide_eq_true_eq] at ht'
        obtain ⟨ho,ht'⟩:=ht'
        rw [List.mapM_cons] at hm
        cases hy:DataW.trod enc P w base spare held n f.type ((cs.drop f.offset).take (P.cellsOf f.type)) with
        |none=>rw [hy] at hm;cases hm
        |some y =>
         rw [hy] at hm
         cases hys:fl.mapM (fun f=>DataW.trod enc P w base spare held n f.type ((cs.drop f.offset).take (P.cellsOf f.type))) with
         |none=>rw [hys] at hm;cases hm
         |some ys =>
          rw [hys] at hm
          cases hm
          simp only [List.map_cons,flatDs] at hv
          obtain ⟨v1,e1,hv⟩:=bnd_some hv
          obtain ⟨v2,e2,hv⟩:=bnd_some hv
          simp only [Option.some.injEq] at hv;subst hv
          have r1:=ih _ _ y.1 y.2 (hfl f (by simp)) hy v1 e1
          have hl2:P.cellsOf f.type ≤ cs.length - off:=by
           have:∀ (fl:List Field) (o:Nat),tile P o fl (P.cellsOf t)=true→o ≤ P.cellsOf t:=by
            intro fl
            induction fl with
            |nil=>intro o h;simp only [tile,decide_eq_true_eq] at h;omega
            |cons f fl ih=>intro o h;simp only [tile,Bool.and_eq_true,decide_eq_true_eq] at h;have:=ih _ h.2;omega
           have:=this _ _ ht'
           have hlen':cs.length=P.cellsOf t:=by simpa using hlen
           omega
          have r2:=ihf (off + P.cellsOf f.type) ys v2 (fun q hq=>hfl q (by simp [hq])) hys ht' (by omega) e2
          have e:cs.drop off=(cs.drop f.offset).take (P.cellsOf f.type) ++ cs.drop (off + P.cellsOf f.type):=by
           rw [ho,← List.drop_drop]
           exact (List.take_append_drop _ _).symm
          rw [e]
          exact RL.append r1 r2
      exact by simpa using key fs.toList 0 xs vs hf hm htile (Nat.zero_le _) hv
    ·cases h
   |array m e =>
    simp only [Bool.and_eq_true,decide_eq_true_eq,List.contains_iff_mem] at hc
    obtain ⟨he,hsz⟩:=hc
    obtain ⟨xs,m',hm',hx,hlen,hn,hel⟩:=DataW.trod_array hu h0
    cases hm'
    have hd:d=.agg (xs.map (·.1)):=by cases hx;rfl
    subst hd
    simp only [flatD] at hv
    have key:∀ (k:Nat) (vs:List FV),k ≤ m→flatDs ((xs.drop (m - k)).map (·.1))=some vs→RL g w vs (cs.drop ((m - k) * P.cellsOf e)):=by
     intro k
     induction k with
     |zero =>
      intro vs _ hv
      rw [Nat.sub_zero,List.drop_eq_nil_of_le (by omega)] at hv
      simp only [List.map_nil,flatDs,Option.some.injEq] at hv;subst hv
      rw [Nat.sub_zero,List.drop_eq_nil_of_le (by omega)]
      exact .nil
     |succ k ihk =>
      intro vs hk hv
      have hj:m - (k + 1) < xs.length:=by omega
      have hel':=hel (m - (k + 1)) (by omega)
      rw [List.getElem?_eq_getElem hj] at hel'
      rw [List.drop_eq_getElem_cons hj,List.map_cons] at hv
      simp only [flatDs] at hv
      obtain ⟨v1,e1,hv⟩:=bnd_some hv
      obtain ⟨v2,e2,hv⟩:=bnd_some hv
      simp only [Option.some.injEq] at hv;subst hv
      have r1:=ih _ _ _ _ he hel' v1 e1
      rw [show m - (k + 1) + 1=m - k by omega] at e2
      have r2:=ihk v2 (by omega) e2
      have e:cs.drop ((m - (k + 1)) * P.cellsOf e)=(cs.drop ((m - (k + 1)) * P.cellsOf e)).take (P.cellsOf e) ++ cs.drop ((m - k) * P.cellsOf e):=by
       rw [show m - k=(m - (k + 1)) + 1 by omega,Nat.add_mul,Nat.one_mul,← List.drop_drop]
       exact (List.take_append_drop _ _).symm
      rw [e]
      exact RL.append r1 r2
    have:=key m vs (Nat.le_refl _) (by simpa using hv)
    simpa using this
   |_=>cases hc
end Go.FI
namespace Go.FI
variable [Sys]
section
variable {P:Program} {n:Nat} {t:TypeId} {cs:List FV}
theorem OfT.slice' {e:TypeId} (h:OfT P (n + 1) t cs) (he:sliceOf P t=some e):∃ (css:List (List FV)),cs=[.lst false (css.map (mkE P e))]∧css.length ≤ maxLen∧∀ c ∈ css,OfT P n e c:=by
 obtain ⟨_,_,h⟩:=h
 unfold sliceOf at he
 split at he
 ·rename_i hu
  cases he
  rw [hu] at h
  exact h
 ·cases he
theorem OfT.field' (h:OfT P (n + 1) t cs) (i:Nat) {u off k:Nat} (hf:fldAt P t i=some (u,off,k)):OfT P n u ((cs.drop off).take k):=by
 obtain ⟨_,_,h⟩:=h
 unfold fldAt at hf
 split at hf
 ·rename_i fs hu
  rw [hu] at h
  cases hx:fs.toList[i]? with
  |none=>rw [hx] at hf;cases hf
  |some f =>
   rw [hx] at hf
   cases hf
   exact h f (List.mem_of_getElem? hx)
 ·cases hf
theorem nodesL_of {l:List Te} {y:Te}:y ∈ nodesL l→∃ x ∈ l,y ∈ nodesT x:=by
 induction l with
 |nil=>intro h;cases h
 |cons a l ih =>
  intro h
  rw [nodesL_cons,List.mem_append] at h
  rcases h with h | h
  ·exact ⟨a,by simp,h⟩
  ·obtain ⟨x,h1,h2⟩:=ih h;exact ⟨x,by simp [h1],h2⟩
theorem TOk.of {t:Te} (h:nodeT t) (hl:∀ x ∈ t.l,TOk x):TOk t:=by
 intro y hy
 rw [nodes_eq,List.mem_cons] at hy
 rcases hy with rfl | hy
 ·exact h
 ·obtain ⟨x,h1,h2⟩:=nodesL_of hy;exact hl x h1 y h2
theorem term_view {u8 i64 u64 str sl:Nat} (ha:isAgg P t=true) (hl:P.cellsOf t=6)
  (h0:fldAt P t 0=some (u8,0,1)) (h1:fldAt P t 1=some (i64,1,1)) (h2:fldAt P t 2=some (u64,2,1)) (h3:fldAt P t 3=some (str,3,1)) (h4:fldAt P t 4=some (i64,4,1)) (h5:fldAt P t 5=some (sl,5,1))
  (k0:kindOf P u8=some .u8) (k1:kindOf P i64=some .i64) (k2:kindOf P u64=some .u64) (k3:strT P str=true) (k5:sliceOf P sl=some t) :
  ∀ {n:Nat} {cs:List FV},OfT P n t cs→∃ x:Te,mkE P t cs=tV x∧TOk x:=by
 intro n
 induction n using Nat.strongRecOn with
 |ind n ih =>
  intro cs h
  cases n with
  |zero=>cases h
  |succ n =>
   have hn:=h.len hl
   have f0:=h.field' 0 h0
   have f1:=h.field' 1 h1
   have f2:=h.field' 2 h2
   have f3:=h.field' 3 h3
   have f4:=h.field' 4 h4
   have f5:=h.field' 5 h5
   match cs,hn with
   |[a0,a1,a2,a3,a4,a5],_ =>
    obtain ⟨k,e0,g0⟩:=f0.int k0
    obtain ⟨w,e1,g1⟩:=f1.int k1
    obtain ⟨b,e2,g2⟩:=f2.int k2
    obtain ⟨s,e3,g3⟩:=f3.str k3
    obtain ⟨lo,e4,g4⟩:=f4.int k1
    cases n with
    |zero=>cases f5
    |succ n =>
     obtain ⟨css,e5,g5,hc⟩:=f5.slice' k5
     obtain ⟨l,m1,m2,m3⟩:=list_view (css:=css) (mk:=mkE P t) (enc:=tV) (good:=TOk) fun c hcc=>ih n (by omega) (hc c hcc)
     simp only [List.drop_succ_cons,List.drop_zero,List.take_succ_cons,List.take_zero,List.cons.injEq,and_true] at e0 e1 e2 e3 e4 e5
     subst e0 e1 e2 e3 e4 e5
     refine ⟨.mk k w b s lo false l,?_,TOk.of ⟨?_,?_,?_,?_,?_,?_⟩ m3⟩
     ·rw [mkE_agg ha,tV_eq,m1];rfl
     ·simp only [Tm'.k];simp [IntKind.min,IntKind.max,IntKind.signed,IntKind.bits] at g0;omega
     ·simp only [Tm'.w];simp [IntKind.min,IntKind.max,IntKind.signed,IntKind.bits] at g1;omega
     ·simp only [Tm'.b];simp [IntKind.min,IntKind.max,IntKind.signed,IntKind.bits] at g2;omega
     ·simp only [Tm'.s];simpa [maxLen] using g3
     ·simp only [Tm'.lo];simp [IntKind.min,IntKind.max,IntKind.signed,IntKind.bits] at g4;omega
     ·simp only [Tm'.l];rw [m2];simpa [maxLen] using g5
end
end Go.FI
namespace Go.FI
abbrev Env:=List (List UInt8 × Int × Int)
def bdV (p:List UInt8 × Int × Int):FV:=.agg [.str p.1,.int .i64 p.2.1,.int .u64 p.2.2]
theorem pu_e (l:Env):pures (l.map bdV)=true:=pures_map (fun _=>rfl) _
theorem lo_e (b:Nat) (l:Env):lows b (l.map bdV)=true:=lows_map (fun _=>rfl) _
theorem al_e (l:Env):(l.map bdV).all FV.ok=true:=all_map (fun _=>rfl) _
theorem cl_e (l:Env):((l.map bdV).all fun v=>v.cells.length == 3)=true:=all_map (fun _=>rfl) _
theorem gd_e {l:Env} {i:Nat} {d:FV} (h:i < l.length):(l.map bdV).getD i d=.agg [.str (l.getD i ([],0,0)).1,.int .i64 (l.getD i ([],0,0)).2.1,.int .u64 (l.getD i ([],0,0)).2.2]:=getD_map _ h
theorem ge_e {l:Env} {i:Nat} (h:i < l.length):(l.map bdV)[i]? = some (.agg [.str (l.getD i ([],0,0)).1,.int .i64 (l.getD i ([],0,0)).2.1,.int .u64 (l.getD i ([],0,0)).2.2]):=by simp [List.getD,h,bdV]
theorem EnL:type_of% (And.intro pu_e <| And.intro lo_e <| And.intro al_e <| And.intro cl_e <| And.intro @gd_e @ge_e):=And.intro pu_e <| And.intro lo_e <| And.intro al_e <| And.intro cl_e <| And.intro @gd_e @ge_e
abbrev nm (env:Env) (k:Nat):List UInt8:=(env.getD k ([],0,0)).1
def boundS (env:Env) (s:List UInt8):Option (List UInt8 × Int × Int):=env.find? fun p=>p.1 == s
theorem find_at (env:Env) (s:List UInt8) (i:Nat) (hi:i < env.length) (lo:∀ k,k < i→¬ nm env k=s):nm env i=s→boundS env s=some (env.getD i ([],0,0)):=by
 induction env generalizing i with
 |nil=>simp at hi
 |cons p env ih =>
  intro h
  unfold boundS
  cases i with
  |zero=>simp [nm] at h;simp [h]
  |succ i =>
   have h0:¬ p.1=s:=by simpa [nm] using lo 0 (by omega)
   simp only [List.find?_cons]
   rw [show (p.1 == s)=false by simpa using h0]
   have:=ih i (by simpa using hi) (fun k hk=>by simpa [nm] using lo (k + 1) (by omega)) (by simpa [nm] using h)
   simpa [boundS] using this
theorem find_no (env:Env) (s:List UInt8) (h:∀ k,k < env.length→¬ nm env k=s):boundS env s=none:=by
 unfold boundS
 rw [List.find?_eq_none]
 intro p hp
 obtain ⟨k,hk⟩:=List.getElem?_of_mem hp
 have hk':k < env.length:=(List.getElem?_eq_some_iff.1 hk).1
 have:=h k hk'
 simp [nm,List.getD,hk] at this
 simpa using this
theorem cb_eq:∀ a b:List UInt8,Go.Lib.compareBytes a b=0 ↔ a=b:=by
 intro a
 induction a with
 |nil=>intro b;cases b<;>simp [Go.Lib.compareBytes]
 |cons x a ih =>
  intro b
  cases b with
  |nil=>simp [Go.Lib.compareBytes]
  |cons y b =>
   simp only [Go.Lib.compareBytes]
   by_cases h1:x < y
   ·simp [h1]
    intro h;subst h;exact absurd h1 (UInt8.lt_irrefl _)
   ·by_cases h2:y < x
    ·simp [h1,h2]
     intro h;subst h;exact absurd h2 (UInt8.lt_irrefl _)
    ·have h3:y=x:=UInt8.le_antisymm (UInt8.not_lt.1 h1) (UInt8.not_lt.1 h2)
     subst h3
     simp [ih b]
theorem env_view [Sys] {P:Program} {n:Nat} {t:TypeId} {cs:List FV} {e str i64 u64:Nat} (h:OfT P n t cs) (he:sliceOf P t=some e) (ha:isAgg P e=true) (hl:P.cellsOf e=3) (h0:fldAt P e 0=some (str,0,1)) (h1:fldAt P e 1=some (i64,1,1)) (h2:fldAt P e 2=some (u64,2,1)) (k0:strT P str=true) (k1:kindOf P i64=some .i64) (k2:kindOf P u64=some .u64) :
  ∃ l:Env,cs=[.lst false (l.map bdV)]∧l.length ≤ maxLen∧∀ p ∈ l,(0 ≤ p.2.2∧p.2.2 ≤ 18446744073709551615)∧p.1.length ≤ maxLen∧-9223372036854775808 ≤ p.2.1∧p.2.1 ≤ 9223372036854775807:=by
 obtain ⟨m,css,rfl,g2,g3⟩:=h.slice he
 obtain ⟨l,h4,h5,h6⟩:=list_view (css:=css) (mk:=mkE P e) (enc:=bdV) (good:=fun p=>(0 ≤ p.2.2∧p.2.2 ≤ 18446744073709551615)∧p.1.length ≤ maxLen∧-9223372036854775808 ≤ p.2.1∧p.2.1 ≤ 9223372036854775807) fun c hc=>by
  have hc':=g3 c hc
  have hlen:=hc'.len hl
  obtain ⟨_,f0⟩:=hc'.field 0 h0
  obtain ⟨_,f1⟩:=hc'.field 1 h1
  obtain ⟨_,f2⟩:=hc'.field 2 h2
  match c,hlen with
  |[x,y,z],_ =>
   obtain ⟨s,e1,s1⟩:=f0.str k0
   obtain ⟨w,e2,w1,w2⟩:=f1.int k1
   obtain ⟨b,e3,b1,b2⟩:=f2.int k2
   simp at e1 e2 e3
   refine ⟨(s,w,b),by rw [mkE_agg ha,e1,e2,e3];rfl,?_⟩
   simp [IntKind.min,IntKind.max,IntKind.signed,IntKind.bits] at b1 b2 w1 w2
   exact ⟨⟨b1,by show b ≤ _;omega⟩,s1,w1,by show w ≤ _;omega⟩
 exact ⟨l,by rw [h4],by omega,h6⟩
end Go.FI
