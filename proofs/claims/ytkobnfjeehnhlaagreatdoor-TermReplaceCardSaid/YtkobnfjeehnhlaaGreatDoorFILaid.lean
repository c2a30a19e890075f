/- What lies in the program's variables: plain data. -/
import Derived.Test.YtkobnfjeehnhlaaGreatDoorFIRow
import Derived.Test.YtkobnfjeehnhlaaGreatDoorFIGlob
set_option linter.all false
namespace Go.FI
open Go.RowKit Go.ChangeShapes
mutual
def flatD {H:Type}:DataW H→Option (List FV)
 |.lit (.int k n)=>some [.int k n]
 |.lit (.string s)=>some [.str s]
 |.lit (.bool b)=>some [.bool b]
 |.agg ds=>flatDs ds
 |_=>none
def flatDs {H:Type}:List (DataW H)→Option (List FV)
 |[]=>some []
 |d::r=>bnd (flatD d) fun a=>bnd (flatDs r) fun b=>some (a ++ b)
end
def closedF (P:Program) (ts:List TypeId):Bool:=ts.all fun t=>match P.underlying t with
 |some .bool=>true
 |some (.int _)=>true
 |some .string=>true
 |some (.struct fs)=>(fs.toList.all fun f=>ts.contains f.type) && tile P 0 fs.toList (P.cellsOf t)
 |some (.array m e)=>ts.contains e && decide (P.cellsOf t=m * P.cellsOf e)
 |_=>false
variable [Sys]
theorem flat_opens {H:Type} {enc:TypeId × Value→H} {P:Program} {w:World} {base:Nat} {spare:Nat→Bool} {held:Bool} {g:Gh} {ts:List TypeId} (hcl:closedF P ts=true) :
  ∀ (n:Nat) (t:TypeId) (cs:List Value) (d:DataW H) (ps:List MemPlace),t ∈ ts→DataW.trod enc P w base spare held n t cs=some (d,ps)→∀ vs,flatD d=some vs→RL g w vs cs:=by
 intro n
 induction n with
 |zero=>intro t cs d ps _ h;simp [DataW.trod] at h
 |succ n ih =>
  intro t cs d ps ht h vs hv
  have hc:=List.all_eq_true.1 hcl t ht
  have h0:=h
  cases hu:P.underlying t with
  |none=>rw [hu] at hc;cases hc
  |some u =>
   rw [hu] at hc
   cases u with
   |bool =>
    obtain ⟨b,rfl,hd⟩:=DataW.trod_bool hu h0
    cases hd
    simp only [flatD,Option.some.injEq] at hv;subst hv
    exact .cons _ _ _ _ (.bool b) .nil
   |int k =>
    obtain ⟨x,rfl,hd,hw⟩:=DataW.trod_int hu h0
    cases hd
    simp only [flatD,Option.some.injEq] at hv;subst hv
    exact .cons _ _ _ _ (.int k x) .nil
   |string =>
    obtain ⟨s,rfl,hs,hd⟩:=trod_strL hu h0
    cases hd
    simp only [flatD,Option.some.injEq] at hv;subst hv
    exact .cons _ _ _ _ (.str s) .nil
   |struct fs =>
    simp only [Bool.and_eq_true,List.all_eq_true,List.contains_iff_mem] at hc
    obtain ⟨hf,htile⟩:=hc
    unfold DataW.trod at h
    rw [hu] at h
    simp only at h
    split at h
    ·rename_i hlen
     cases hm:fs.toList.mapM (fun f=>DataW.trod enc P w base spare held n f.type ((cs.drop f.offset).take (P.cellsOf f.type))) with
     |none=>rw [hm] at h;cases h
     |some xs =>
      rw [hm] at h
      have hd:d=.agg (xs.map (·.1)):=by
       cases h;rfl
      subst hd
      simp only [flatD] at hv
      have key:∀ (fl:List Field) (off:Nat) (xs:List (DataW H × List MemPlace)) (vs:List FV),(∀ f ∈ fl,f.type ∈ ts)→fl.mapM (fun f=>DataW.trod enc P w base spare held n f.type ((cs.drop f.offset).take (P.cellsOf f.type)))=some xs →
        tile P off fl (P.cellsOf t)=true→off ≤ cs.length→flatDs (xs.map (·.1))=some vs→RL g w vs (cs.drop off):=by
       intro fl
       induction fl with
       |nil =>
        intro off xs vs _ hm ht' hoff hv
        simp at hm;subst hm
        simp only [List.map_nil,flatDs,Option.some.injEq] at hv;subst hv
        simp only [tile,decide_eq_true_eq] at ht'
        rw [List.drop_eq_nil_of_le (by omega)]
        exact .nil
       |cons f fl ihf =>
        intro off xs vs hfl hm ht' hoff hv
        simp only [tile,Bool.and_eq_true,decide_eq_true_eq] at ht'
        obtain ⟨ho,ht'⟩:=ht'
        rw [List.mapM_cons] at hm
        cases hy:DataW.trod enc P w base spare held n f.type ((cs.drop f.offset).take (P.cellsOf f.type)) with
        |none=>rw [hy] at hm;cases hm
        |some y =>
         rw [hy] at hm
         cases hys:fl.mapM (fun f=>DataW.trod enc P w base spare held n f.type ((cs.drop f.offset).take (P.cellsOf f.type))) with
         |none=>rw [hys] at hm;cases hm
         |some ys =>
          rw [hys] at hm
          cases hm
          simp only [List.map_cons,flatDs] at hv
          obtain ⟨v1,e1,hv⟩:=bnd_some hv
          obtain ⟨v2,e2,hv⟩:=bnd_some hv
          simp only [Option.some.injEq] at hv;subst hv
          have r1:=ih _ _ y.1 y.2 (hfl f (by simp)) hy v1 e1
          have hl2:P.cellsOf f.type ≤ cs.length - off:=by
           have:∀ (fl:List Field) (o:Nat),tile P o fl (P.cellsOf t)=true→o ≤ P.cellsOf t:=by
            intro fl
            induction fl with
            |nil=>intro o h;simp only [tile,decide_eq_true_eq] at h;omega
            |cons f fl ih=>intro o h;simp only [tile,Bool.and_eq_true,decide_eq_true_eq] at h;have:=ih _ h.2;omega
           have:=this _ _ ht'
           have hlen':cs.length=P.cellsOf t:=by simpa using hlen
           omega
          have r2:=ihf (off + P.cellsOf f.type) ys v2 (fun q hq=>hfl q (by simp [hq])) hys ht' (by omega) e2
          have e:cs.drop off=(cs.drop f.offset).take (P.cellsOf f.type) ++ cs.drop (off + P.cellsOf f.type):=by
           rw [ho,← List.drop_drop]
           exact (List.take_append_drop _ _).symm
          rw [e]
          exact RL.append r1 r2
      exact by simpa using key fs.toList 0 xs vs hf hm htile (Nat.zero_le _) hv
    ·cases h
   |array m e =>
    simp only [Bool.and_eq_true,decide_eq_true_eq,List.contains_iff_mem] at hc
    obtain ⟨he,hsz⟩:=hc
    obtain ⟨xs,m',hm',hx,hlen,hn,hel⟩:=DataW.trod_array hu h0
    cases hm'
    have hd:d=.agg (xs.map (·.1)):=by cases hx;rfl
    subst hd
    simp only [flatD] at hv
    have key:∀ (k:Nat) (vs:List FV),k ≤ m→flatDs ((xs.drop (m - k)).map (·.1))=some vs→RL g w vs (cs.drop ((m - k) * P.cellsOf e)):=by
     intro k
     induction k with
     |zero =>
      intro vs _ hv
      rw [Nat.sub_zero,List.drop_eq_nil_of_le (by omega)] at hv
      simp only [List.map_nil,flatDs,Option.some.injEq] at hv;subst hv
      rw [Nat.sub_zero,List.drop_eq_nil_of_le (by omega)]
      exact .nil
     |succ k ihk =>
      intro vs hk hv
      have hj:m - (k + 1) < xs.length:=by omega
      have hel':=hel (m - (k + 1)) (by omega)
      rw [List.getElem?_eq_getElem hj] at hel'
      rw [List.drop_eq_getElem_cons hj,List.map_cons] at hv
      simp only [flatDs] at hv
      obtain ⟨v1,e1,hv⟩:=bnd_some hv
      obtain ⟨v2,e2,hv⟩:=bnd_some hv
      simp only [Option.some.injEq] at hv;subst hv
      have r1:=ih _ _ _ _ he hel' v1 e1
      rw [show m - (k + 1) + 1=m - k by omega] at e2
      have r2:=ihk v2 (by omega) e2
      have e:cs.drop ((m - (k + 1)) * P.cellsOf e)=(cs.drop ((m - (k + 1)) * P.cellsOf e)).take (P.cellsOf e) ++ cs.drop ((m - k) * P.cellsOf e):=by
       rw [show m - k=(m - (k + 1)) + 1 by omega,Nat.add_mul,Nat.one_mul,← List.drop_drop]
       exact (List.take_append_drop _ _).symm
      rw [e]
      exact RL.append r1 r2
    have:=key m vs (Nat.le_refl _) (by simpa using hv)
    simpa using this
   |_=>cases hc
end Go.FI
