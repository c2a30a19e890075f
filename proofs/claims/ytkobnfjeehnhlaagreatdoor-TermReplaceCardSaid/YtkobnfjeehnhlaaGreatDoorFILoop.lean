/- Loops over functions: their objects. -/
import Derived.Test.YtkobnfjeehnhlaaGreatDoorFIRun
import Derived.RangeFuncIn
import Derived.RangeFuncLeaves
import Derived.RangeFuncRecord
set_option linter.all false
namespace Go.FI
open Go.RowKit
variable [Sys]
section
variable {g g':Gh} {w w':World} {P:Program} {B:Nat} {w0:World} {h h':Heap}
theorem write_loop (hI : Inv B w0 g h w) {id st jp : Nat} {l : Loc} (hg : hget h id = some (.lp st jp)) (hk : g.κ id = some l) (st' jp' : Nat) :
    ∃ b r, l.blk = some b ∧ l.lp = some r ∧ l.mp = true ∧ w.heap[b]? = some (.loop { r with state := stO st, pending := jpO jp }) ∧ b < w.heap.size ∧
      Inv B w0 g (hset h id (.lp st' jp')) (w.putObj b (.loop { r with state := stO st', pending := jpO jp' })) ∧ GLe g g w (w.putObj b (.loop { r with state := stO st', pending := jpO jp' })) := by
  have ho : LpOk w l st jp := hI.obj id _ l hg hk
  obtain ⟨hmp, b, r, hb, hr, hw⟩ := ho
  have hblt : b < w.heap.size := (hI.own id l b hk hb).2.2
  have p : Put g g w (w.putObj b (.loop { r with state := stO st', pending := jpO jp' })) id l :=
    { k := fun i => by split; rename_i e; subst e; exact hk; rfl
      z := rfl
      old := fun l2 hl => by rw [hk] at hl; cases hl; exact ⟨Nat.le_refl _, rfl, fun _ => rfl⟩
      blk := fun c e => .inl ⟨l, hk, e⟩
      heap := fun c _ hc => World.putObj_heap_other fun e => hc (by rw [hb, e])
      sz := by simp
      lt := fun c e => by rw [hb] at e; cases e; simpa using hblt
      os := rfl
      tape := rfl
      output := rfl }
  exact ⟨b, r, hb, hr, hmp, hw, hblt, hI.put p (hget_hset hg) ⟨hmp, b, r, hb, hr, World.putObj_heap_same hblt⟩ (fun _ _ => by rw [hg]; rfl), p.gle hI (fun _ _ => by rw [hg]; rfl)⟩
theorem Inv.still (hI:Inv B w0 g h w) (o:Go.Obj):Inv B w0 ⟨g.κ,fun b=>g.Z b ∨ b=w.heap.size⟩ h (w.alloc o)∧GLe g ⟨g.κ,fun b=>g.Z b ∨ b=w.heap.size⟩ w (w.alloc o):=by
 have hlt:∀ b,b < w.heap.size→(w.alloc o).heap[b]? = w.heap[b]? := fun b hb=>Below.heap_alloc w o b hb
 have hle:GLe g ⟨g.κ,fun b=>g.Z b ∨ b=w.heap.size⟩ w (w.alloc o):=⟨fun _ h=>.inl h,fun b hb=>hlt b (hI.zlt b hb),KLe.refl _⟩
 refine ⟨⟨hI.dom,fun i q l hq hl=>?_,hI.inj,fun i l b hl hb=>?_,fun b hb=>?_,?_,?_⟩,hle⟩
 ·exact (hI.obj i q l hq hl).mono hle fun b hb=>hlt b (hI.own i l b hl hb).2.2
 ·obtain ⟨h1,h2,h3⟩:=hI.own i l b hl hb
  exact ⟨h1,fun hf hz=>by rcases hz with hz | hz;exact h2 hf hz;omega,by simp;omega⟩
 ·rcases hb with hb | hb
  ·have:=hI.zlt b hb;simp;omega
  ·subst hb;simp
 ·exact hI.below.alloc hI.size o
 ·have:=hI.size;simp;omega
theorem loop_at (hI:Inv B w0 g h w) {id:Nat} {l:Loc} {r:Loop} (hk:g.κ id=some l) (hm:l.mp=true) (hr:l.lp=some r):∃ b r',l.blk=some b∧w.heap[b]? = some (.loop r'):=by
 obtain ⟨o,ho⟩:=hI.dom id l hk
 have:=hI.obj id o l ho hk
 cases o with
 |row es xs=>have:=(this:RowOk g w l es xs).hmp;rw [hm] at this;cases this
 |fro es xs=>have:=(this.1:RowOk g w l es xs).hmp;rw [hm] at this;cases this
 |mp en=>have:=(this:MapOk g w l en).hlp;rw [hr] at this;cases this
 |fmp en=>have:=(this.1:MapOk g w l en).hlp;rw [hr] at this;cases this
 |mit=>have:=(this:MitOk g w l).hlp;rw [hr] at this;cases this
 |sit s pos=>have:=(this:SitOk w l s pos).hlp;rw [hr] at this;cases this
 |lp st jp =>
  obtain ⟨_,b,r',h1,_,h3⟩:=(this:LpOk w l st jp)
  exact ⟨b,_,h1,h3⟩
theorem enter_loop_in (hI:Inv B w0 g h w) {id:Nat} (hn:hget h id=none) (r:Loop) (hs:r.state=.ready) (hp:r.pending=none) :
  ∃ g1,g1.κ=upd g.κ id ⟨some w.heap.size,0,0,0,true,some r⟩∧(∀ b,g1.Z b→g.Z b) ∧
   Inv B w0 g1 ((id,.lp 0 0)::h) (w.alloc (.loop r))∧GLe g g1 w (w.alloc (.loop r)):=by
 have hk:=kNone hI hn
 have p:=Put.alloc hI hk (.loop r) ⟨some w.heap.size,0,0,0,true,some r⟩ rfl
 have hr:r={ r with state:=stO 0,pending:=jpO 0 }:=by
  obtain ⟨s,q,fn,tmps,ps,a,b,d⟩:=r
  simp only at hs hp
  subst hs;subst hp
  rfl
 refine ⟨⟨upd g.κ id ⟨some w.heap.size,0,0,0,true,some r⟩,g.Z⟩,rfl,fun b h=>h,hI.put p (hget_cons h id _) ⟨rfl,w.heap.size,r,rfl,rfl,?_⟩ (fun _ _=>by rw [hn];rfl),p.gle hI (fun _ _=>by rw [hn];rfl)⟩
 rw [← hr]
 exact World.alloc_heap_new _ _
theorem run_enterLoop_in (P:Program) {w:World} {l:Nat} {r0:Loop} (h:w.heap[l]? = some (.loop r0)) (fn:FuncId) (tmps:Array Value) (ps:Array Tmp) (assign body:Code) :
  (Instr.enterLoop fn tmps ps assign body (some l)).run P w =
   .ok (w.heap.size,[]) (w.alloc (.loop { state:=.ready,pending:=none,fn,tmps,params:=ps,assign,body,defers:=r0.defers })):=by
 unfold Instr.enterLoop
 simp only [Sem.run_bind,run_getLoop h,run_newObj_alloc,Result.andThen,Sem.run_pure]
theorem enter_loop (hI:Inv B w0 g h w) {id:Nat} (hn:hget h id=none) (r:Loop) (hs:r.state=.ready) (hp:r.pending=none) :
  ∃ g1,g1.κ=upd g.κ id ⟨some (w.heap.size + 1),0,0,0,true,some r⟩∧(∀ b,g1.Z b ↔ g.Z b ∨ b=w.heap.size) ∧
   Inv B w0 g1 ((id,.lp 0 0)::h) ((w.alloc (.deferred (some []))).alloc (.loop r))∧GLe g g1 w ((w.alloc (.deferred (some []))).alloc (.loop r)) ∧
   ((w.alloc (.deferred (some []))).alloc (.loop r)).heap[w.heap.size]? = some (.deferred (some [])):=by
 obtain ⟨h1,h2⟩:=hI.still (.deferred (some []))
 have hk:=kNone h1 hn
 have hsz:(w.alloc (.deferred (some []))).heap.size=w.heap.size + 1:=by simp
 have p:=Put.alloc h1 hk (.loop r) ⟨some (w.heap.size + 1),0,0,0,true,some r⟩ (by rw [hsz])
 have hr:r={ r with state:=stO 0,pending:=jpO 0 }:=by
  obtain ⟨s,q,fn,tmps,ps,a,b,d⟩:=r
  simp only at hs hp
  subst hs;subst hp
  rfl
 refine ⟨_,rfl,fun b=>Iff.rfl,h1.put p (hget_cons h id _) ⟨rfl,w.heap.size + 1,r,rfl,rfl,?_⟩ (fun _ _=>by rw [hn];rfl),h2.trans (p.gle h1 (fun _ _=>by rw [hn];rfl)),?_⟩
 ·rw [← hr,← hsz]
  exact World.alloc_heap_new _ _
 ·rw [Below.heap_alloc _ _ _ (by simp)]
  exact World.alloc_heap_new _ _
end
def Marks (g:Gh) (w:World) (lo:Nat):List Deferred→Prop
 |[]=>True
 |d::ds=>(∃ r,d={ target:=.collected r,args:=#[] }∧g.Z r∧lo ≤ r∧w.heap[r]? = some (.deferred (some []))∧∀ d' ∈ ds,d' ≠ d)∧Marks g w lo ds
theorem Marks.mono {g g':Gh} {w w':World} {lo lo':Nat} (hlo:lo' ≤ lo) (hz:∀ b,g.Z b→g'.Z b) (hh:∀ b,g.Z b→w'.heap[b]? = w.heap[b]?):∀ {ds:List Deferred},Marks g w lo ds→Marks g' w' lo' ds:=by
 intro ds
 induction ds with
 |nil=>intro _;trivial
 |cons d ds ih =>
  rintro ⟨⟨r,h1,h2,h3,h4,h5⟩,h6⟩
  exact ⟨⟨r,h1,hz r h2,Nat.le_trans hlo h3,by rw [hh r h2];exact h4,h5⟩,ih h6⟩
theorem Marks.mem {g:Gh} {w:World} {lo:Nat}:∀ {ds:List Deferred},Marks g w lo ds→∀ {d},d ∈ ds→∃ r,d=({ target:=.collected r,args:=#[] }:Deferred)∧g.Z r:=by
 intro ds
 induction ds with
 |nil=>intro _ d hd;simp at hd
 |cons e ds ih =>
  rintro ⟨⟨r,h1,h2,h3,h4,h5⟩,h6⟩ d hd
  rcases List.mem_cons.1 hd with hd | hd
  ·exact ⟨r,hd.trans h1,h2⟩
  ·exact ih h6 hd
theorem Marks.append {g:Gh} {w:World} {lo lo':Nat} {ms:List Deferred} (hm:Marks g w lo ms) (hlo:lo ≤ lo') (hlt:∀ d ∈ ms,∀ r,d=({ target:=.collected r,args:=#[] }:Deferred)→r < lo'):∀ {ds:List Deferred},Marks g w lo' ds→Marks g w lo (ds ++ ms):=by
 intro ds
 induction ds with
 |nil=>intro _;exact hm
 |cons d ds ih =>
  rintro ⟨⟨r,h1,h2,h3,h4,h5⟩,h6⟩
  refine ⟨⟨r,h1,h2,Nat.le_trans hlo h3,h4,fun d' hd'=>?_⟩,ih h6⟩
  rcases List.mem_append.1 hd' with hd' | hd'
  ·exact h5 d' hd'
  ·intro e
   have:=hlt d' hd' r (by rw [e,h1])
   omega
def Rnd (β:Nat) (g:Gh) (b:Frame):Prop:=∀ q,b.roundOf=some q→∃ id loc r,id < β∧g.κ id=some loc∧loc.blk=some q∧loc.mp=true∧loc.lp=some r
theorem Rnd.le {β:Nat} {g g1:Gh} {w w1:World} {b:Frame} (h:Rnd β g b) (hg:GLe g g1 w w1):Rnd β g1 b:=fun q hq=>by
 obtain ⟨id,loc,r,h1,h2,h3,h4,h5⟩:=h q hq
 obtain ⟨loc',k1,_,_,k2⟩:=hg.k id loc h2
 have:=k2 (.inr h4)
 subst this
 exact ⟨id,loc',r,h1,k1,h3,h4,h5⟩
theorem enter_any (P:Program) {B:Nat} {w0:World} {g:Gh} {h:Heap} {w:World} {β:Nat} {b:Frame} (hI:Inv B w0 g h w) (hR:Rnd β g b) {id:Nat} (hn:hget h id=none) (tmps:Array Value) (ps:Array Tmp) (asg body:Code) :
  ∃ g1 w1 l mark r,r.tmps=tmps∧r.params=ps∧r.assign=asg∧r.body=body∧(Instr.enterLoop b.fn tmps ps asg body b.roundOf).run P w=.ok (l,mark) w1∧g1.κ=upd g.κ id ⟨some l,0,0,0,true,some r⟩ ∧
   Inv B w0 g1 ((id,.lp 0 0)::h) w1∧GLe g g1 w w1∧(∀ b,g1.Z b→g.Z b ∨ w.heap.size ≤ b)∧w.heap.size ≤ w1.heap.size∧Marks g1 w1 w.heap.size mark:=by
 cases hb:b.roundOf with
 |none =>
  obtain ⟨r,hr⟩:∃ r:Loop,r={ state:=.ready,pending:=none,fn:=b.fn,tmps:=tmps,params:=ps,assign:=asg,body:=body,defers:=w.heap.size }:=⟨_,rfl⟩
  obtain ⟨g1,k1,k2,k3,k4,k5⟩:=enter_loop hI hn r (by rw [hr]) (by rw [hr])
  refine ⟨g1,_,w.heap.size + 1,[{ target:=.collected w.heap.size,args:=#[] }],r,by rw [hr],by rw [hr],by rw [hr],by rw [hr],by rw [hr];exact run_enterLoop_outer _ _ _ _ _,k1,k3,k4,fun b hb=>?_,by simp;omega,⟨⟨w.heap.size,rfl,(k2 _).2 (.inr rfl),Nat.le_refl _,k5,fun _ h=>by simp at h⟩,trivial⟩⟩
  rcases (k2 b).1 hb with h | h
  ·exact .inl h
  ·exact .inr (by omega)
 |some q =>
  obtain ⟨i,loc,r0,h1,h2,h3,h4,h5⟩:=hR q hb
  obtain ⟨bq,r1,e1,e2⟩:=loop_at hI h2 h4 h5
  rw [h3] at e1;cases e1
  obtain ⟨r,hr⟩:∃ r:Loop,r={ state:=.ready,pending:=none,fn:=b.fn,tmps:=tmps,params:=ps,assign:=asg,body:=body,defers:=r1.defers }:=⟨_,rfl⟩
  obtain ⟨g1,k1,k2,k3,k4⟩:=enter_loop_in hI hn r (by rw [hr]) (by rw [hr])
  exact ⟨g1,_,w.heap.size,[],r,by rw [hr],by rw [hr],by rw [hr],by rw [hr],by rw [hr];exact run_enterLoop_in P e2 _ _ _ _ _,k1,k3,k4,fun b hb=>.inl (k2 b hb),by simp,trivial⟩
end Go.FI
