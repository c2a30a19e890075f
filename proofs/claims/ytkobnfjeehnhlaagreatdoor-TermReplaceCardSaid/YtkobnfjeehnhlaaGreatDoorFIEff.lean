/- The operations that write. -/
import Derived.Test.YtkobnfjeehnhlaaGreatDoorFINew
set_option linter.all false
namespace Go.FI
open Go.RowKit
variable [Sys]
theorem splice_get {α:Type} (l m:List α) (o j:Nat) (hl:o + m.length ≤ l.length):(l.take o ++ m ++ l.drop (o + m.length))[j]? = if j < o then l[j]? else if j < o + m.length then m[j - o]? else l[j]? := by
 rw [List.append_assoc,List.getElem?_append,List.getElem?_append]
 simp only [List.length_take,List.getElem?_take,List.getElem?_drop]
 have:min o l.length=o:=by omega
 rw [this]
 by_cases h1:j < o
 ·simp [h1]
 ·simp only [h1,if_false]
  by_cases h2:j < o + m.length
  ·rw [if_pos (by omega),if_pos h2]
  ·rw [if_neg (by omega),if_neg h2]
   congr 1;omega
theorem splice_length {α:Type} (l m:List α) (o:Nat) (hl:o + m.length ≤ l.length):(l.take o ++ m ++ l.drop (o + m.length)).length=l.length:=by
 simp;omega
theorem splice_splice (l vs:List FV) (p n off:Nat) (h1:off + vs.length ≤ n) (h2:p + n ≤ l.length):splice l p (splice (cut l p (p + n)) off vs)=splice l (p + off) vs:=by
 have hc:(cut l p (p + n)).length=n:=by rw [cut_length _ _ _ h2];omega
 have hs:(splice (cut l p (p + n)) off vs).length=n:=by unfold splice;rw [splice_length _ _ _ (by omega)];exact hc
 apply List.ext_getElem?
 intro j
 have e1:(splice l p (splice (cut l p (p + n)) off vs))[j]? = _:=splice_get l (splice (cut l p (p + n)) off vs) p j (by omega)
 have e2:(splice l (p + off) vs)[j]? = _:=splice_get l vs (p + off) j (by omega)
 rw [e1,e2,hs]
 by_cases h3:j < p
 ·rw [if_pos h3,if_pos (by omega)]
 ·rw [if_neg h3]
  by_cases h4:j < p + n
  ·rw [if_pos h4]
   have e3:(splice (cut l p (p + n)) off vs)[j - p]? = _:=splice_get (cut l p (p + n)) vs off (j - p) (by omega)
   rw [e3]
   have e4:(cut l p (p + n))[j - p]? = l[j]? := by
    unfold cut
    rw [List.getElem?_take,if_pos (by omega),List.getElem?_drop]
    congr 1;omega
   rw [e4]
   by_cases h5:j < p + off
   ·rw [if_pos (by omega),if_pos h5]
   ·rw [if_neg (by omega),if_neg h5]
    by_cases h6:j < p + off + vs.length
    ·rw [if_pos (by omega),if_pos h6];congr 1;omega
    ·rw [if_neg (by omega),if_neg h6]
  ·rw [if_neg h4,if_neg (by omega),if_neg (by omega)]
theorem ok_cells {v:FV} (h:v.ok=true):∀ c ∈ v.cells,c.one=true:=by
 intro c hc
 unfold FV.ok at h
 split at h
 ·rename_i cs;simp only [List.all_eq_true] at h;exact h c hc
 ·rename_i hn
  have:v.cells=[v]:=by unfold FV.cells;split<;>simp_all
  rw [this] at hc;simp at hc;subst hc;exact h
theorem ok_of_one {v:FV} (h:v.one=true):v.ok=true:=by unfold FV.ok;split<;>simp_all [FV.one]
theorem cells_of_one {v:FV} (h:v.one=true):v.cells=[v]:=by unfold FV.cells;split<;>simp_all [FV.one]
theorem reshape_spec {e:FV} {cs:List FV} (hl:cs.length=e.cells.length) (h1:∀ c ∈ cs,c.one=true):(reshape e cs).cells=cs∧(reshape e cs).ok=true:=by
 unfold reshape
 split
 ·exact ⟨rfl,by simp only [FV.ok,List.all_eq_true];exact h1⟩
 ·have:e.cells.length=1:=by unfold FV.cells;split<;>simp_all
  match cs,hl with
  |[c],_=>exact ⟨cells_of_one (h1 c (by simp)),ok_of_one (h1 c (by simp))⟩
  |[],hl=>simp [this] at hl
  |_::_::_,hl=>simp [this] at hl
theorem splice_one {l vs:List FV} {o:Nat} (h1:∀ c ∈ l,c.one=true) (h2:∀ c ∈ vs,c.one=true):∀ c ∈ splice l o vs,c.one=true:=by
 intro c hc
 unfold splice at hc
 simp only [List.mem_append] at hc
 rcases hc with (hc | hc) | hc
 ·exact h1 c (List.mem_of_mem_take hc)
 ·exact h2 c hc
 ·exact h1 c (List.mem_of_mem_drop hc)
section
variable {g g':Gh} {w w':World} {P:Program} {B:Nat} {w0:World} {h h':Heap} {a:Act} {m:Tm} {dst:Option Tmp} {op:Op} {ty:TypeId} {pos:String} {aft:Array Edge} {gd:Option (Nat × Bool)} {v:FV}
theorem R_one {v:FV} {x:Value} (hr:R g w v x) (h1:v.one=true):x.oneCell'=true:=by
 cases hr<;>simp [FV.one] at h1<;>rfl
theorem RL_one {vs:List FV} {xs:List Value} (hr:RL g w vs xs) (h1:∀ c ∈ vs,c.one=true):∀ x ∈ xs,x.oneCell'=true:=by
 induction vs generalizing xs with
 |nil=>cases hr;simp
 |cons v vs ih =>
  cases hr with
  |cons _ x _ ys hr hs =>
   intro y hy
   simp at hy
   rcases hy with rfl | hy
   ·exact R_one hr (h1 v (by simp))
   ·exact ih hs (fun c hc=>h1 c (by simp [hc])) y hy
theorem Put.row {id:Nat} {l:Loc} {b:Nat} (hk:g.κ id=some l) (hb:l.blk=some b) (hlt:b < w.heap.size) (cs:Array Value) (l':Loc) (hb':l'.blk=some b) (hs:l.size ≤ l'.size) (he:l'.es=l.es) (hm:l.mp=false) (hsame:l'.size=l.size→l'=l) :
  Put g ⟨upd g.κ id l',g.Z⟩ w (w.setRow b cs) id l' where
 k:=fun _=>rfl
 z:=rfl
 old:=fun l2 hl=>by rw [hk] at hl;cases hl;exact ⟨hs,he,fun e=>by rcases e with e | e;exact hsame e;rw [hm] at e;cases e⟩
 blk:=fun c e=>.inl ⟨l,hk,by rw [hb];rw [hb'] at e;exact e⟩
 heap:=fun c _ hc=>setRow_other w b c cs fun e=>hc (by rw [hb',e])
 sz:=by simp
 lt:=fun c e=>by rw [hb'] at e;cases e;simpa using hlt
 os:=rfl
 tape:=rfl
 output:=rfl
theorem upd_self {κ:Nat→Option Loc} {id:Nat} {l:Loc} (hk:κ id=some l):upd κ id l=κ:=by
 funext i;unfold upd;split
 ·rename_i e;subst e;exact hk.symm
 ·rfl
theorem write_row (hI:Inv B w0 g h w) {id es:Nat} {xs xs':List FV} {l:Loc} (hg:hget h id=some (.row es xs)) (hk:g.κ id=some l) {b:Nat} (hb:l.blk=some b) {o:Nat} {vs:List FV} {ys:List Value} (hr:RL g w vs ys) (h1:∀ c ∈ vs,c.one=true)
  (hfit:o + vs.length ≤ xs.length * es) (hx:xs'.flatMap FV.cells=splice (xs.flatMap FV.cells) o vs) (hxs:∀ x ∈ xs',x.cells.length=es∧x.ok=true) (hlen:xs'.length=xs.length) :
  ∃ w',(storeCells ⟨b,o,none⟩ ys).run P w=.ok () w'∧Inv B w0 g (hset h id (.row es xs')) w'∧GLe g g w w'∧w'.heap.size=w.heap.size:=by
 obtain ⟨l2,hk2,hrow⟩:=hI.obj' hk hg
 rw [hk] at hk2;cases hk2
 have hrow:RowOk g w l es xs:=hrow
 obtain ⟨arr,t,q1,q2,q3,cs,q4,q5⟩:=hrow.hsome b hb
 have hblt:b < w.heap.size:=(hI.own id l b hk hb).2.2
 have hcsl:cs.length=xs.length * es:=by rw [← q4.length,flat_length (fun x hx=>(hrow.elems x hx).1)]
 have hyl:ys.length=vs.length:=hr.length.symm
 have harr:o + ys.length ≤ arr.toList.length:=by
  have:xs.length * es ≤ l.cap * es:=Nat.mul_le_mul_right _ q3
  simp;omega
 have hrun:=run_storeCells_at (P:=P) b o t ys 0 arr w q1 (by simpa using harr) (RL_one hr h1)
 simp only [Nat.add_zero] at hrun
 have p:=Put.row (w:=w) hk hb hblt (arr.toList.take o ++ ys ++ arr.toList.drop (o + ys.length)).toArray l hb (Nat.le_refl _) rfl hrow.hmp (fun _=>rfl)
 rw [upd_self hk] at p
 have hle:=p.gle hI (fun _ _=>by rw [hg];rfl)
 refine ⟨_,hrun,hI.put p (hget_hset hg) ?_ (fun _ _=>by rw [hg];rfl),hle,by simp⟩
 refine ⟨hrow.hmp,by rw [hrow.hsize,hlen],hrow.hes,hrow.pos,hxs,fun e=>absurd (hb.symm.trans e) (by simp),fun b2 hb2=>?_⟩
 rw [hb] at hb2;cases hb2
 refine ⟨_,t,setRow_heap w b arr _ t (0,0) q1,?_,by omega,cs.take o ++ ys ++ cs.drop (o + ys.length),?_,?_⟩
 ·simp;simp at harr;omega
 ·rw [hx];exact (q4.splice hr o).mono hle
 ·intro j v hj
  rw [splice_get _ _ _ _ (by omega)] at hj
  rw [List.getElem?_toArray,splice_get _ _ _ _ harr]
  split at hj
  ·rw [if_pos (by assumption)];simpa using q5 j v hj
  ·rw [if_neg (by assumption)]
   split at hj
   ·rw [if_pos (by assumption)];exact hj
   ·rw [if_neg (by assumption)];simpa using q5 j v hj
def isSeq:TypeDesc→Bool | .slice _=>true | .string=>true | _=>false
def elemIs (P:Program) (e:TypeId) (es by_:Nat):Bool :=
 decide (0 < es) && decide (0 < by_) && (match P.info? e with
  |some i=>match i.zero with
   |some z=>i.size == es && i.bytes == by_ && z.cells.size == es
   |none=>false
  |none=>false)
def okEff (P:Program) (op:Op):O→Bool
 |.ap es by_ x y=>match op with
  |.call ⟨.builtin .append,args,ts⟩=>okXs args.toList [x,y] && (match ts.toList with
    |[t,t2]=>isDesc P t (fun d=>elemOk P d fun e=>elemIs P e es by_) && isDesc P t2 isSeq
    |_=>false)
  |_=>false
 |.st sz x v=>match op with
  |.store t x' v'=>okX x' x && okX v' v && sizeIs P t sz
  |_=>false
 |_=>false
theorem e_st (hI:Inv B w0 g h w) (hm:RT g w m a) {sz:Nat} {x y:X} (hok:okEff P op (.st sz x y)=true) (hh:storev h sz (ev m y) (ev m x)=some h') :
  Does P B w0 g h w a ⟨dst,op,ty,pos,aft,gd⟩ .undef h' (fun _=>False):=by
 cases op<;>simp only [okEff,Bool.false_eq_true] at hok
 rename_i t x' y'
 simp only [Bool.and_eq_true] at hok
 obtain ⟨⟨h1,h2⟩,h3⟩:=hok
 have rx:=R_okX hm h1
 have ry:=R_okX hm h2
 unfold storev at hh
 split at hh
 ·rename_i id stamp i off hx
  rw [hx] at rx
  generalize hv:a.eval x'=q at rx
  cases rx with | ptr _ _ _ _ l ad hk hs hp =>
  split at hh
  ·rename_i es xs hg
   obtain ⟨⟨k1,k2,k3⟩,k4⟩:=chk_some hh
   obtain ⟨e,k5,k6⟩:=bnd_some k4
   obtain ⟨k7,k8⟩:=chk_some k6
   simp only [Option.some.injEq] at k8;subst k8
   obtain ⟨l',hk',hrow⟩:=hI.obj' hk hg
   rw [hk] at hk';cases hk'
   have hrow:RowOk g w l es xs:=hrow
   obtain ⟨b,hb,rfl⟩:=hp (by rw [hrow.hsize];exact k1.symm)
   have hi:i < xs.length:=(List.getElem?_eq_some_iff.1 k5).1
   have hem:e ∈ xs:=List.mem_of_getElem? k5
   have hel:=hrow.elems e hem
   have hsl:(splice e.cells off (ev m y).cells).length=e.cells.length:=by unfold splice;rw [splice_length _ _ _ (by omega)]
   have hsp:=reshape_spec hsl (splice_one (o:=off) (ok_cells hel.2) (ok_cells k2))
   have hcells:=ry.cells k2
   have hfl:(xs.flatMap FV.cells).length=xs.length * es:=flat_length fun x hx=>(hrow.elems x hx).1
   have hie:i * es + es ≤ xs.length * es:=by
    have:(i + 1) * es ≤ xs.length * es:=Nat.mul_le_mul_right _ hi
    rw [Nat.add_mul] at this;omega
   obtain ⟨w',r1,r2,r3,r4⟩:=write_row (P:=P) (xs':=xs.set i (reshape e (splice e.cells off (ev m y).cells))) hI hg hk hb (o:=i * es + off) hcells (ok_cells k2) (by omega) (by
    rw [← flat_set (fun x hx=>(hrow.elems x hx).1) hi (by rw [hsp.1,hsl];exact hel.1),hsp.1]
    have:=splice_splice (xs.flatMap FV.cells) (ev m y).cells (i * es) es off (by omega) (by omega)
    rw [flat_cut (fun x hx=>(hrow.elems x hx).1) k5] at this
    exact this) (by
    intro z hz
    rcases List.mem_or_eq_of_mem_set hz with hz | rfl
    ·exact hrow.elems z hz
    ·exact ⟨by rw [hsp.1,hsl];exact hel.1,hsp.2⟩) (by simp)
   refine ⟨g,w',.skip,undef,?_,.inr ⟨rfl,rfl⟩,.undef _,r2,r3,fun b hb=>.inl hb,by omega,fun i _ h=>⟨h,by rw [hget_hset hg,if_neg (fun e=>by subst e;rw [hk] at h;cases h)]⟩⟩
   have hstore:(Instr.storeAt t (a.eval x') (a.eval y')).run P w=.ok () w':=by
    rw [hv]
    simp only [Instr.storeAt,Instr.sureAddr,Sem.run_bind,Sem.run_pure,Result.andThen_ok,storeVar,run_sizeOf w h3]
    rw [if_neg (by have:=hcells.length;simp at this;omega)]
    rw [hrow.hes]
    exact r1
   show ((do Instr.storeAt t (a.eval x') (a.eval y');pure .skip:Sem Next)).run P w=_
   simp only [Sem.run_bind,hstore,Result.andThen_ok,Sem.run_pure]
  ·simp at hh
 ·simp at hh
theorem cell_heap {W w:World} (hW:W.heap=w.heap) (ad:Addr):W.cell? ad=w.cell? ad:=by simp only [World.cell?,hW]
theorem elems_sound (hI:Inv B w0 g h w) {y:FV} {vy:Value} (hy:R g w y vy) {ys:List FV} (he:elems h y=some ys) {es:Nat} (hp:0 < es) (hys:∀ z ∈ ys,z.cells.length=es) :
  ∃ news:Array Value,RL g w (ys.flatMap FV.cells) news.toList∧(∀ W:World,W.heap=w.heap→(Builtin.lenOf vy).run P W=.ok ys.length W)∧(∀ W:World,W.heap=w.heap→(Builtin.firstCells es ys.length vy).run P W=.ok news W):=by
 unfold elems at he
 split at he
 ·rename_i e xs
  simp only [Option.some.injEq] at he;subst he
  cases hy with
  |lst0 _ aa cap hh =>
   refine ⟨#[],.nil,fun W _=>rfl,fun W _=>?_⟩
   cases aa with
   |none=>rfl
   |some ad =>
    show (loadCells ad (0 * es)).run P W=_
    rw [Nat.zero_mul];rfl
  |lst _ _ b o es' cap cs hne hh hle hZ hes hx hr hc =>
   have ees:es'=es:=by
    cases xs with
    |nil=>simp at hne
    |cons z zs=>have:=(hx z (by simp)).1;have:=hys z (by simp);omega
   subst ees
   refine ⟨cs.toArray,by simpa using hr,fun W _=>rfl,fun W hW=>?_⟩
   have hl:cs.length=xs.length * es':=by rw [← hr.length,flat_length hys]
   show (loadCells ⟨b,o,none⟩ (xs.length * es')).run P W=_
   rw [← hl]
   exact run_loadCells_list (P:=P) (w:=W) _ cs fun j v hj=>by rw [add_addr,cell_heap hW];exact hc j v hj
 ·rename_i s
  simp only [Option.some.injEq] at he;subst he
  obtain ⟨bs,rfl,rfl⟩:=R_str hy
  have hl:bs.data.toList.length=bs.size:=rfl
  refine ⟨bs.data.map fun b=>.int .u8 b.toNat,?_,fun W _=>by simp [Builtin.lenOf,hl],fun W _=>?_⟩
  ·have:∀ l:List UInt8,RL g w ((l.map fun b=>FV.int .u8 b.toNat).flatMap FV.cells) (l.map fun b=>Value.int .u8 b.toNat):=by
    intro l
    induction l with
    |nil=>exact .nil
    |cons b l ih=>exact .cons _ _ _ _ (.int _ _) ih
   simpa using this bs.data.toList
  ·have e1:bs.extract 0 bs.size=bs:=by simp
   simp [Builtin.firstCells]
 ·rename_i es' id stamp off len
  split at he
  iterate 2
   ·rename_i es2 xs hg
    obtain ⟨⟨k1,k2⟩,k3⟩:=chk_some he
    simp only [Option.some.injEq] at k3;subst k3
    cases hy with | sref _ _ _ _ _ l aa cap hk hee hs hle ha hh =>
    obtain ⟨l',hk',hrow⟩:=hI.obj' hk hg
    rw [hk] at hk';cases hk'
    have hrow:RowOk g w l es2 xs:=by first | exact hrow | exact hrow.1
    obtain ⟨q1,q2,q3⟩:=hh (by rw [hrow.hsize];exact k1.symm)
    have hcl:(cut xs off (off + len)).length=len:=by rw [cut_length _ _ _ (by omega)];omega
    rw [hcl]
    by_cases hz:len=0
    ·subst hz
     have e0:cut xs off (off + 0)=[]:=by simp [cut]
     refine ⟨#[],by rw [e0];exact .nil,fun W _=>rfl,fun W _=>?_⟩
     cases aa with
     |none=>rfl
     |some ad=>show (loadCells ad (0 * es)).run P W=_;rw [Nat.zero_mul];rfl
    ·obtain ⟨b,hb,rfl⟩:=q3 (by omega)
     obtain ⟨arr,t,r1,r2,r3,cs,r4,r5⟩:=hrow.hsome b hb
     have ees:es2=es:=by
      have h1:off < xs.length:=by omega
      have h2:xs[off] ∈ cut xs off (off + len):=by
       unfold cut
       rw [List.mem_take_iff_getElem]
       exact ⟨0,by simp;omega,by simp⟩
      have:=hys _ h2
      have:=(hrow.elems xs[off] (List.getElem_mem h1)).1
      omega
     subst ees
     have hflat:(cut xs off (off + len)).flatMap FV.cells=cut (xs.flatMap FV.cells) (off * es2) ((off + len) * es2):=by
      have hx'':∀ x ∈ xs.drop off,x.cells.length=es2:=fun x hx=>(hrow.elems x (List.mem_of_mem_drop hx)).1
      unfold cut
      rw [flat_drop (fun x hx=>(hrow.elems x hx).1),← Nat.mul_sub_right_distrib,flat_take hx'']
     have hcsl:cs.length=xs.length * es2:=by rw [← r4.length,flat_length (fun x hx=>(hrow.elems x hx).1)]
     have hle2:(off + len) * es2 ≤ cs.length:=by rw [hcsl];exact Nat.mul_le_mul_right _ (by omega)
     refine ⟨(cut cs (off * es2) ((off + len) * es2)).toArray,by rw [hflat];simpa using r4.cut _ _,fun W _=>rfl,fun W hW=>?_⟩
     have hl:(cut cs (off * es2) ((off + len) * es2)).length=len * es2:=by
      rw [cut_length _ _ _ hle2,Nat.add_mul];omega
     show (loadCells ⟨b,off * l.es,none⟩ (len * es2)).run P W=_
     rw [← hl]
     exact run_loadCells_list (P:=P) (w:=W) _ _ fun j v hj=>by
      rw [add_addr,cell_heap hW,hrow.hes]
      have:=r5 _ _ (cut_get _ _ _ _ _ hj)
      simp [World.cell?,r1,this]
  ·simp at he
 ·simp at he
theorem ap_grow {t t2 e:TypeId} {i:TypeInfo} {z:Value} (ht:P.underlying t=some (.slice e)) (h2:isDesc P t2 isSeq=true) (hi:P.info? e=some i) (hz:i.zero=some z) (hb:0 < i.bytes)
  (base:Option Addr) (sLen sCap n:Nat) (x:Value) (olds news:Array Value) (hlen:(Builtin.lenOf x).run P w=.ok n w) (hnews:(Builtin.firstCells i.size n x).run P w.drew=.ok news w.drew)
  (holds:(Builtin.firstCells i.size sLen (.slice base sLen sCap)).run P w.drew=.ok olds w.drew) (hg:sCap < sLen + n) (hfit:(sLen + n) * i.bytes ≤ most) :
  (Builtin.append_ #[t,t2] ty #[.slice base sLen sCap,x]).run P w =
   .ok (.slice (some ⟨w.heap.size,0,none⟩) (sLen + n) (grownCap w (sLen + n) sCap e)) (w.drew.alloc (.cells (olds ++ news ++ Builtin.zeroCells z.cells (grownCap w (sLen + n) sCap e - (sLen + n))) e)):=by
 obtain ⟨d2,hd2,hp2⟩:=desc_of h2
 have hn:¬ (sLen + n ≤ sCap):=by omega
 unfold most at hfit
 have hle:sLen + n ≤ (sLen + n) * i.bytes:=Nat.le_mul_of_pos_right _ hb
 have h63':¬ (9223372036854775807 < ((sLen:Int) + (n:Int))):=by omega
 have h48:=growslice_fits (bytes:=i.bytes) hg (by omega)
 have h48':¬ (281474976710656 < Builtin.nextslicecap (sLen + n) sCap * i.bytes):=by omega
 have hb0:i.bytes ≠ 0:=by omega
 cases d2<;>simp [isSeq] at hp2 <;>
  simp [Builtin.append_,run_underlying ht,run_underlying hd2,sizeOf,typeInfo,zeroValue,hi,hz,hlen,hn,h63',h48',hb0,Question.forced,hnews,holds,newRow,grownCap]
theorem ap_room {t t2 e:TypeId} {i:TypeInfo} (ht:P.underlying t=some (.slice e)) (h2:isDesc P t2 isSeq=true) (hi:P.info? e=some i)
  (b o sLen sCap n:Nat) (x:Value) (news:Array Value) (hlen:(Builtin.lenOf x).run P w=.ok n w) (hnews:(Builtin.firstCells i.size n x).run P w=.ok news w) {w2:World}
  (hst:(storeCells ⟨b,o + sLen * i.size,none⟩ news.toList).run P w=.ok () w2) (hroom:sLen + n ≤ sCap) :
  (Builtin.append_ #[t,t2] ty #[.slice (some ⟨b,o,none⟩) sLen sCap,x]).run P w=.ok (.slice (some ⟨b,o,none⟩) (sLen + n) sCap) w2:=by
 obtain ⟨d2,hd2,hp2⟩:=desc_of h2
 cases d2<;>simp [isSeq] at hp2 <;>
  simp [Builtin.append_,run_underlying ht,run_underlying hd2,sizeOf,typeInfo,hi,hlen,hroom,hnews,add_addr,hst]
end
end Go.FI
