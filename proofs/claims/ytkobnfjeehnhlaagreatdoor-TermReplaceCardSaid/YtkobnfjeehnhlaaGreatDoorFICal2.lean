/- Calls,of a whole table. -/
import Derived.Test.YtkobnfjeehnhlaaGreatDoorFIRange
set_option linter.all false
namespace Go.FI
open Go.RowKit
variable [Sys]
section
variable {P:Program} {B:Nat} {w0:World} {g g':Gh} {w w':World} {h h':Heap} {m:Tm} {a:Act} {nt:Nat} {cm:Nat→Nat}
theorem stable_call (T:Tab) (n:Nat):Stable (call T n) (cmOf T):=by
 intro f hf args h nx v h1 nx1 hc
 cases n with
 |zero=>simp [call] at hc
 |succ n =>
  simp only [call] at hc ⊢
  cases hT:tget T f with
  |none=>rw [hT] at hc;simp at hc
  |some q =>
   rw [hT] at hc
   cases q with
   |rd d=>simp [cmOf,hT] at hf
   |ct c =>
    simp only at hc ⊢
    obtain ⟨hlt,hc⟩:=chk_some hc
    simp only [enterC] at hc ⊢
    obtain ⟨k1,hc⟩:=chk_some hc
    obtain ⟨x,k2,hc⟩:=bnd_some hc
    obtain ⟨u,k3,hc⟩:=bnd_some hc
    obtain ⟨r,k4,hc⟩:=bnd_some hc
    simp only [Option.some.injEq,Prod.mk.injEq] at hc
    obtain ⟨rfl,rfl,rfl⟩:=hc
    exact ⟨rfl,rfl,fun h' nx' _=>by simp [chk,bnd,hlt,k1,k2,k3,k4]⟩
   |mr d =>
    simp only at hc ⊢
    obtain ⟨hlt,hc⟩:=chk_some hc
    unfold enterM at hc ⊢
    obtain ⟨r,k1,k2⟩:=bnd_some hc
    simp only [Option.some.injEq,Prod.mk.injEq] at k2
    obtain ⟨rfl,rfl,rfl⟩:=k2
    exact ⟨rfl,rfl,fun h' nx' _=>by simp [chk,bnd,hlt,k1]⟩
   |ext gg =>
    simp only at hc ⊢
    obtain ⟨k1,hc⟩:=chk_some hc
    obtain ⟨as,k0,hc⟩:=bnd_some hc
    obtain ⟨u,k2,hc⟩:=bnd_some hc
    obtain ⟨k3,hc⟩:=chk_some hc
    simp only [Option.some.injEq,Prod.mk.injEq] at hc
    obtain ⟨rfl,rfl,rfl⟩:=hc
    refine ⟨rfl,rfl,fun h' nx' hs=>?_⟩
    have hs:=hs.resolve_left (by simp [cmOf,hT])
    simp [chk,bnd,k1,(frz_sub hs deep).2 _ _ k0,k2,k3]
   |fn d =>
    simp only at hc ⊢
    obtain ⟨hlt,hc⟩:=chk_some hc
    simp only [enter] at hc ⊢
    obtain ⟨hnp,hc⟩:=chk_some hc
    cases hm:d.mode with
    |shr=>simp [cmOf,hT,hm] at hf
    |isc=>simp [cmOf,hT,hm] at hf
    |iso =>
     rw [hm] at hc
     simp only at hc
     obtain ⟨k1,hc⟩:=chk_some hc
     obtain ⟨x,k2,hc⟩:=bnd_some hc
     obtain ⟨u,k3,hc⟩:=bnd_some hc
     obtain ⟨r,k4,hc⟩:=bnd_some hc
     simp only [Option.some.injEq,Prod.mk.injEq] at hc
     obtain ⟨rfl,rfl,rfl⟩:=hc
     exact ⟨rfl,rfl,fun h' nx' _=>by simp [chk,bnd,hlt,hnp,k1,k2,k3,k4]⟩
    |isf =>
     rw [hm] at hc
     simp only at hc
     obtain ⟨as,k1,hc⟩:=bnd_some hc
     obtain ⟨x,k2,hc⟩:=bnd_some hc
     obtain ⟨u,k3,hc⟩:=bnd_some hc
     obtain ⟨k4,hc⟩:=chk_some hc
     simp only [Option.some.injEq,Prod.mk.injEq] at hc
     obtain ⟨rfl,rfl,rfl⟩:=hc
     refine ⟨rfl,rfl,fun h' nx' hs=>?_⟩
     have hs:=hs.resolve_left (by simp [cmOf,hT,hm])
     simp [chk,bnd,hlt,hnp,(frz_sub hs deep).2 _ _ k1,k2,k3,k4]
theorem Stable.np {cal:Call} {cm:Nat→Nat} (h:Stable cal cm):Stable (FI.np cal) cm:=by
 intro f hf args hh nx v h1 nx1 hc
 obtain ⟨k1,k2⟩:=np_some hc
 obtain ⟨e1,e2,e3⟩:=h f hf args hh nx v h1 nx1 k1
 refine ⟨e1,e2,fun h' nx' hs=>?_⟩
 unfold FI.np
 rw [e3 h' nx' hs]
 simp [bnd,chk,k2]
theorem gt_append:∀ (a b:Tm) (t:Nat),gt (a ++ b) t=if (a.map (·.1)).contains t then gt a t else gt b t:=by
 intro a b t
 induction a with
 |nil=>simp [gt]
 |cons p a ih =>
  obtain ⟨i,v⟩:=p
  simp only [List.cons_append,gt,List.map_cons,List.contains_cons]
  by_cases e:i=t
  ·subst e;simp
  ·have e2:(t == i)=false:=by simpa using fun x=>e (Eq.symm x)
   rw [if_neg e,if_neg e,e2,Bool.false_or]
   exact ih
theorem zipTm_keys:∀ (ts:List Nat) (vs:List FV),vs.length=ts.length→(zipTm ts vs).map (·.1)=ts
 |[],[],_=>rfl
 |[],_::_,_=>rfl
 |_::_,[],h=>by simp at h
 |t::ts,v::vs,h=>by simp only [zipTm,List.map_cons,zipTm_keys ts vs (by simpa using h)]
theorem gt_zipTm:∀ (ts:List Nat) (vs:List FV) (xs:List Value) (b:Array Value) (t:Nat),RL g w vs xs→vs.length=ts.length→ts.Nodup→(∀ t ∈ ts,t < b.size) →
  (t ∈ ts→R g w (gt (zipTm ts vs) t) (((ts.zip xs).foldl (fun tmps (p:Nat × Value)=>tmps.setIfInBounds p.1 p.2) b).getD t undef)) ∧
  (t ∉ ts→((ts.zip xs).foldl (fun tmps (p:Nat × Value)=>tmps.setIfInBounds p.1 p.2) b).getD t undef=b.getD t undef):=by
 intro ts
 induction ts with
 |nil=>intro vs xs b t _ _ _ _;exact ⟨fun h=>by simp at h,fun _=>rfl⟩
 |cons i ts ih =>
  intro vs xs b t hr hl hn hlt
  cases vs with
  |nil=>simp at hl
  |cons v vs =>
   cases hr with
   |cons _ x _ xs hr hs =>
    have hn':=List.nodup_cons.1 hn
    obtain ⟨h1,h2⟩:=ih vs xs (b.setIfInBounds i x) t hs (by simpa using hl) hn'.2 (fun t ht=>by simpa using hlt t (List.mem_cons_of_mem _ ht))
    simp only [List.zip_cons_cons,List.foldl_cons,zipTm,gt]
    have hi:i < b.size:=hlt i (by simp)
    refine ⟨fun hm=>?_,fun hm=>?_⟩
    ·by_cases e:i=t
     ·subst e
      rw [if_pos rfl,h2 hn'.1]
      simpa [Array.getD,hi] using hr
     ·rw [if_neg e]
      exact h1 ((List.mem_cons.1 hm).resolve_left fun x=>e x.symm)
    ·have e:¬ t=i:=fun e=>hm (by simp [e])
     have e2:¬ i=t:=fun x=>e x.symm
     rw [h2 (fun h=>hm (List.mem_cons_of_mem _ h))]
     simp only [Array.getD_eq_getD_getElem?,Array.getElem?_setIfInBounds_ne e2]
theorem RL_gt:∀ (ts:List Nat) (vs:List FV) (b:Array Value) (t:Nat),RL g w vs (ts.map fun t=>b.getD t undef)→vs.length=ts.length→R g w (gt (zipTm ts vs) t) (b.getD t undef):=by
 intro ts
 induction ts with
 |nil=>intro vs b t _ _;cases vs<;>exact .undef _
 |cons i ts ih =>
  intro vs b t hr hl
  cases vs with
  |nil=>simp at hl
  |cons v vs =>
   cases hr with
   |cons _ _ _ _ hr hs =>
    simp only [zipTm,gt]
    by_cases e:i=t
    ·subst e;rw [if_pos rfl];exact hr
    ·rw [if_neg e];exact ih vs b t hs (by simpa using hl)
theorem RT_round {ps ct:List Nat} {vs caps:List FV} {xs:List Value} {tmps:Array Value} {params:Array Nat} (hok:okPs tmps.size ps ct=true) (hps:params.toList=ps) (hx:RL g w vs xs) (hl:vs.length=ps.length) (hc:RL g w caps (ct.map fun t=>tmps.getD t undef)) (hl2:caps.length=ct.length) (hgl:GlOk g w) :
  RT g w (zipTm ps vs ++ zipTm ct caps) ⟨(params.zip xs.toArray).foldl (fun tmps (t,a)=>tmps.setIfInBounds t a) tmps,[]⟩:=by
 refine ⟨fun t=>?_,hgl⟩
 simp only [okPs,Bool.and_eq_true,decide_eq_true_eq,List.all_eq_true] at hok
 obtain ⟨h1,h2⟩:=hok
 rw [List.nodup_append] at h1
 obtain ⟨g1,g2⟩:=gt_zipTm ps vs xs tmps t hx hl h1.1 (fun t ht=>h2 t (by simp [ht]))
 have e:(params.zip xs.toArray).foldl (fun tmps (t,a)=>tmps.setIfInBounds t a) tmps=(ps.zip xs).foldl (fun tmps (p:Nat × Value)=>tmps.setIfInBounds p.1 p.2) tmps:=by
  rw [← Array.foldl_toList,Array.toList_zip,hps]
 simp only [e,gt_append,zipTm_keys ps vs hl,List.contains_iff_mem]
 by_cases ht:t ∈ ps
 ·rw [if_pos ht];exact g1 ht
 ·rw [if_neg ht,g2 ht];exact RL_gt ct caps tmps t hc hl2
theorem round_sound {rdO : Nat → Option Rd} (hrk : ∀ f r ct, RkOf P cm rdO f r ct ↔ Sys.rk f r ct) {cal : Call} (hcal : CalOkP P cal) (hst : Stable (np cal) cm) (hmix : P.follows .mixedOrders = true) {n f id : Nat} {d : Rd} (hd : rdO f = some d) {caps args : List FV} {nx nx' : Nat} {v : FV}
    (hr : round cal n d (.yl f id caps :: args) h nx = some (v, h', nx')) (hf : Fresh h nx) {y : Value} {xs : List Value} (hI : Inv B w0 g h w) (hgl : GlOk g w) (hy : R g w (.yl f id caps) y) (hx : RL g w args xs) :
    ∃ b fn tmps as bo, y = .func (.yield b) #[] #[] ∧ (Instr.yield b xs.toArray).run P w = .ok (.round b fn tmps as bo) w ∧
        RoundW P b fn tmps as bo w fun e w' => ∃ x g', e = .returned x ∧ R g' w' v x ∧ Nx B w0 g g' h' w w' ∧ KNew g g' h h' (fun i => nx ≤ i ∧ i < nx') := by
  simp only [round] at hr
  obtain ⟨⟨hl1, hl2, hlp⟩, hr⟩ := chk_some hr
  obtain ⟨⟨ex, m', h1, nx1⟩, k1, k2⟩ := bnd_some hr
  cases hy with | yl _ _ _ l b r ct hge hk hm hb hq hrkf hc =>
  obtain ⟨d', e1, e2, e3, e4, e5, e6⟩ := (hrk _ _ _).2 hrkf
  rw [hd] at e1; cases e1
  subst e2
  unfold isLp at hlp
  split at hlp
  · rename_i st jp hg
    have ho : LpOk w l st jp := hI.obj id _ l hg hk
    obtain ⟨_, bb, rr, p1, p2, p3⟩ := ho
    rw [hb] at p1; cases p1
    rw [hq] at p2; cases p2
    have hidlt : id < nx := by
      rcases Nat.lt_or_ge id nx with h | h
      · exact h
      · rw [hf id h] at hg; cases hg
    have hyl := run_yield (P := P) (args := xs.toArray) p3 (by
      have := hx.length
      have e : r.params.size = d.ps.length := by rw [← e3]; simp
      simp only [List.size_toArray, e]; omega)
    simp only at hyl
    refine ⟨b, _, _, _, _, rfl, hyl, fun c cs => ?_⟩
    let bf : Frame := { (default : Frame) with fn := r.fn, kind := .normal, roundOf := some b }
    have hb0 : ∀ tmps, Frame.round b r.fn tmps r.assign r.body .normal = bf.atR { tmps := tmps, defers := [] } [.code r.assign, .beginRound, .code r.body] := fun tmps => by
      simp [Frame.round, Frame.atR, bf]
    have hsz : ∀ (l : List (Nat × Value)) (t : Array Value), (l.foldl (fun tmps (p : Nat × Value) => tmps.setIfInBounds p.1 p.2) t).size = t.size := by
      intro l
      induction l with
      | nil => intro t; rfl
      | cons p l ih => intro t; simp only [List.foldl_cons, ih, Array.size_setIfInBounds]
    have hRT := RT_round (g := g) (w := w) e4 e3 hx hl1 hc hl2 hgl
    obtain ⟨⟨q1, q3, q4⟩, q2⟩ := run_sound (nt := r.tmps.size) (B := B) (w0 := w0) (fun f r ct => (hrk f r ct).1) hcal hst hmix n _ _ _ _ _ _ _ _ k1 _ nx (.code r.assign d.asg _ _ e5 (.beg id _ _ (.code r.body d.body [] [] e6 .nil))) (fun b c hm => by simp at hm) (Nat.le_refl _) hf
    obtain ⟨g', a', w', K', ms, fr0, r1, r2, r3, r4, r5, r5', r6, r7⟩ := q2 g w _ bf (c :: cs) (fun q hq2 => by cases hq2; exact ⟨id, l, r, hidlt, hk, hb, hm, hq⟩) (fun i hm' => by
      simp at hm'
      subst hm'
      exact ⟨hidlt, b, l, rfl, hk, hb, hm⟩) hRT (by
        show ((r.params.zip xs.toArray).foldl (fun tmps (t, a) => tmps.setIfInBounds t a) r.tmps).size = _
        have e : (r.params.zip xs.toArray).foldl (fun tmps (t, a) => tmps.setIfInBounds t a) r.tmps = (d.ps.zip xs).foldl (fun tmps (p : Nat × Value) => tmps.setIfInBounds p.1 p.2) r.tmps := by
          rw [← Array.foldl_toList, Array.toList_zip, e3]
        rw [e, hsz]) hI
    rw [gcut_fresh hI hf] at r6
    rw [← hb0] at r1
    have r7 : KNew g g' h h1 (fun i => nx ≤ i ∧ i < nx1) := fun i hi hk => by
      by_cases h1 : nx ≤ i
      · have h2 : nx1 ≤ i := by
          rcases Nat.lt_or_ge i nx1 with h3 | h3
          · exact absurd ⟨h1, h3⟩ hi
          · exact h3
        exact ⟨kNone r6.inv (q3 i h2), by rw [q3 i h2, hf i h1]⟩
      · exact r7 i h1 hk
    obtain ⟨l', hk', _, _, hl'⟩ := r6.le.k id l hk
    have := hl' (.inr hm); subst this
    simp only [leave] at k2
    split at k2
    · rename_i st1 jp1 hg1
      have fin : ∀ (st' jp' : Nat) (jump : Option Code) (t : Bool), h' = hset h1 id (.lp st' jp') → nx' = nx1 → v = .bool t → jump.isNone = t → jpO jp' = jump → stO st' = (if jump.isNone then .ready else .done) →
          fr0 = bf.atR a' K' → (∀ (vv : Value) (ww : World), (Instr.endRound b jump).run P w' = .ok vv ww → step P (lone (bf.atR a' K') (c :: cs) w') = .next (lone (c.finish vv) cs ww)) →
          ∃ e w'', (∃ x g', e = .returned x ∧ R g' w'' v x ∧ Nx B w0 g g' h' w w'' ∧ KNew g g' h h' (fun i => nx ≤ i ∧ i < nx')) ∧ Comes P (lone (Frame.round b r.fn ((r.params.zip xs.toArray).foldl (fun tmps (t, a) => tmps.setIfInBounds t a) r.tmps) r.assign r.body .normal) (c :: cs) w)
            (match e with
             | .returned v => lone (c.finish v) cs w''
             | .panicked chain => lone (c.raise chain) cs w''
             | .outgrown => lone c cs w'') e := by
        rintro st' jp' jump t rfl rfl rfl rfl hjp hst' rfl hstep
        obtain ⟨bq, rq, z1, z2, z3, z4, z5, z6, z7⟩ := write_loop r6.inv hg1 hk' st' jp'
        rw [hb] at z1; cases z1
        rw [hq] at z2; cases z2
        have hend := run_endRound (P := P) jump z4
        have hs := hstep _ _ hend
        rw [hst', hjp] at z6 z7
        refine ⟨.returned (.bool jump.isNone), _, ⟨_, g', rfl, .bool _, ⟨z6, r6.le.trans z7, r6.z, by simpa using r6.sz⟩, fun i hi hki => ?_⟩, Steps.trans r1 (.one hs)⟩
        obtain ⟨y1, y2⟩ := r7 i hi hki
        refine ⟨y1, ?_⟩
        rw [hget_hset hg1, y2]
        split
        · rename_i e; subst e; rw [hk] at hki; cases hki
        · rfl
      cases ex with
      | fin =>
        simp only [Option.some.injEq, Prod.mk.injEq] at k2
        obtain ⟨v1, v2, v3⟩ := k2
        obtain ⟨e, e2⟩ := r2
        subst e
        exact fin 0 0 none true v2.symm v3.symm v1.symm rfl rfl rfl e2 fun vv ww hh => stepR_round_end rfl rfl hh
      | ret =>
        simp only [Option.some.injEq, Prod.mk.injEq] at k2
        obtain ⟨v1, v2, v3⟩ := k2
        obtain ⟨⟨k, rfl⟩, e2⟩ := r2
        exact fin 2 1 (some .ret) false v2.symm v3.symm v1.symm rfl rfl rfl e2 fun vv ww hh => stepR_round_ret rfl rfl hh
      | xt e =>
        simp only [Option.some.injEq, Prod.mk.injEq] at k2
        obtain ⟨v1, v2, v3⟩ := k2
        obtain ⟨⟨k, rfl, hx2⟩, e2⟩ := r2
        exact fin 2 (e + 2) (some (.exit e)) false v2.symm v3.symm v1.symm rfl rfl rfl e2 fun vv ww hh => stepR_round_exit rfl rfl hx2 hh
      | pan u => simp at k2
    · simp at k2
  · simp at hlp
theorem ropsD_new {cal:Call} (hcalP:CalOkP P cal) {c:Nat} {gs:List G} {nx nx1:Nat} {p:Option FV} {m1:Tm} {h1:Heap} (hr:ropsD cal nx c gs m h (nx + gs.length)=some (p,m1,h1,nx1)) (hf:Fresh h nx):New h h1 nx nx1:=by
 unfold ropsD at hr
 obtain ⟨⟨m2,h2,nx2⟩,k1,hr⟩:=bnd_some hr
 have hl1:(gs.take c).length ≤ gs.length:=by simp;omega
 obtain ⟨a1,a2⟩:=rops_new hcalP.np (gs.take c) nx m h (nx + gs.length) m2 h2 nx2 (fun j hj _=>hf j hj) (by omega) (fun i hi=>hf i (by omega)) k1
 have hf2:Fresh h2 nx2:=fun i hi=>a2 i (hf i (by omega)) (by omega) (.inr hi)
 simp only at hr
 split at hr
 ·obtain ⟨⟨v,h3,nx3⟩,k2,hr⟩:=bnd_some hr
  have hnew:=hcalP.new _ _ _ _ _ _ _ k2 hf2
  simp only at hr
  split at hr
  ·simp only [Option.some.injEq,Prod.mk.injEq] at hr
   obtain ⟨_,rfl,rfl,rfl⟩:=hr
   exact ⟨by have:=hnew.1;omega,fun i hi hc=>by
    rcases hc with hc | hc
    ·exact hnew.2 i (a2 i hi (by omega) (by omega)) (.inl (by omega))
    ·exact hnew.fresh hf2 i hc⟩
  ·obtain ⟨⟨m4,h4,nx4⟩,k3,hr⟩:=bnd_some hr
   simp only [Option.some.injEq,Prod.mk.injEq] at hr
   obtain ⟨_,rfl,rfl,rfl⟩:=hr
   have k3:=(rechk_some k3).1
   by_cases hc:c < gs.length
   ·have hl2:(gs.drop (c + 1)).length=gs.length - (c + 1):=by simp
    have hl3:(gs.take c).length=c:=by simp;omega
    have hn3:∀ j,nx + c + 1 ≤ j→j < nx + c + 1 + (gs.drop (c + 1)).length→hget h3 j=none:=fun j hj hj'=>hnew.2 j (a2 j (hf j (by omega)) (by omega) (.inl (by omega))) (.inl (by omega))
    have hf3:Fresh h3 nx3:=hnew.fresh hf2
    obtain ⟨b1,b2⟩:=rops_new hcalP.np (gs.drop (c + 1)) (nx + c + 1) _ h3 nx3 _ _ _ hn3 (by have:=hnew.1;omega) hf3 k3
    exact ⟨by have:=hnew.1;omega,fun i hi hcc=>by
     rcases hcc with hcc | hcc
     ·exact b2 i (hnew.2 i (a2 i hi (by omega) (by omega)) (.inl (by omega))) (by omega) (.inl (by have:=hnew.1;omega))
     ·exact b2 i (hf3 i (by omega)) (by have:=hnew.1;omega) (.inr hcc)⟩
   ·have e:gs.drop (c + 1)=[]:=List.drop_eq_nil_of_le (by omega)
    rw [e] at k3
    simp only [rops,Option.some.injEq,Prod.mk.injEq] at k3
    obtain ⟨_,rfl,rfl⟩:=k3
    exact ⟨by have:=hnew.1;omega,fun i hi hcc=>by
     rcases hcc with hcc | hcc
     ·exact hnew.2 i (a2 i hi (by omega) (by omega)) (.inl (by omega))
     ·exact hnew.fresh hf2 i hcc⟩
 ·simp at hr
theorem run_new {cal:Call} (hcalP:CalOkP P cal):∀ (n:Nat) (todo:List I) (m:Tm) (h:Heap) (nx:Nat) (ex:Ex) (m':Tm) (h':Heap) (nx':Nat),run cal n todo m h nx=some (ex,m',h',nx') →
  ∀ β,Base β todo→β ≤ nx→Fresh h nx→(β ≤ nx'∧Fresh h' nx'∧∀ i < β,hget h i=none→hget h' i=none):=by
 have hcal:=hcalP.np
 intro n
 induction n with
 |zero=>intro todo m h nx ex m' h' nx' hr;simp [run] at hr
 |succ n ih =>
  intro todo m h nx ex m' h' nx' hr β hB hβ hf
  cases todo with
  |nil =>
   simp only [run,Option.some.injEq,Prod.mk.injEq] at hr
   obtain ⟨rfl,rfl,rfl,rfl⟩:=hr
   exact ⟨hβ,hf,fun _ _ h=>h⟩
  |cons t l =>
   cases t with
   |inB id =>
    simp only [run] at hr
    exact ih _ _ _ _ _ _ _ _ hr β (fun b c hm=>hB b c (by simp [hm])) hβ hf
   |inS c =>
    simp only [run] at hr
    exact ih _ _ _ _ _ _ _ _ hr β (fun b c hm=>hB b c (by simp [hm])) hβ hf
   |beg id =>
    simp only [run] at hr
    split at hr
    ·rename_i jp hg
     obtain ⟨q1,q3,q4⟩:=ih _ _ _ _ _ _ _ _ hr β (fun b c hm=>hB b c (by simp [hm])) hβ (fun i hi=>hset_none hg i (hf i hi))
     exact ⟨q1,q3,fun i hi hn=>q4 i hi (hset_none hg i hn)⟩
    ·simp at hr
   |inL t d =>
    cases t with
    |none =>
     simp only [run] at hr
     exact ih _ _ _ _ _ _ _ _ hr β (fun b c hm=>hB b c (by simpa using hm)) hβ hf
    |some bb =>
     simp only [run] at hr
     obtain ⟨⟨c1,c2,c3⟩,hr⟩:=chk_some hr
     have hbb:β ≤ bb:=hB bb d (by simp)
     obtain ⟨h1,h2,h3⟩:=ih _ _ _ _ _ _ _ _ hr β (fun b c hm=>hB b c (by simpa using hm)) hbb (fun i hi=>by rw [hget_cutH,if_neg (by omega)])
     exact ⟨h1,h2,fun i hi hn=>h3 i hi (by rw [hget_cutH];split;exact hn;rfl)⟩
   |code d =>
    cases d with
    |bad=>simp only [run] at hr;cases hr
    |sk =>
     simp only [run] at hr
     exact ih _ _ _ _ _ _ _ _ hr β (fun b c hm=>hB b c (by simp [hm])) hβ hf
    |lb t =>
     simp only [run] at hr
     exact ih _ _ _ _ _ _ _ _ hr β (fun b c hm=>hB b c (by simp [hm])) hβ hf
    |sc x =>
     simp only [run] at hr
     exact ih _ _ _ _ _ _ _ _ hr β (fun b c hm=>hB b c (by simpa using hm)) hβ hf
    |go t =>
     simp only [run] at hr
     split at hr
     ·rename_i l' hl
      exact ih _ _ _ _ _ _ _ _ hr β (fun b c hm=>by
       rcases go_mem _ _ _ hl _ hm with ⟨_,e⟩ | e
       ·cases e
       ·exact hB b c (List.mem_cons_of_mem _ e)) hβ hf
     ·simp at hr
    |rf f x ct =>
     simp only [run] at hr
     split at hr
     ·rename_i q caps hx
      obtain ⟨⟨v,h2,nx2⟩,k1,hr⟩:=bnd_some hr
      simp only at hr
      split at hr
      ·rename_i st jp hg2
       obtain ⟨hne,hr⟩:=chk_some hr
       have hfr1:Fresh ((nx,.lp 0 0)::h) (nx + 1):=fun i hi=>by rw [hget_cons,if_neg (by omega)];exact hf i (by omega)
       have hnew:=hcal.new _ _ _ _ _ _ _ k1 hfr1
       have hfr2:Fresh (hset h2 nx (.lp 3 jp)) nx2:=fun i hi=>hset_none hg2 i (hnew.fresh hfr1 i hi)
       have hold:∀ i < β,hget h i=none→hget (hset h2 nx (.lp 3 jp)) i=none:=fun i hi hn=>hset_none hg2 i (hnew.2 i (by rw [hget_cons,if_neg (by omega)];exact hn) (.inl (by omega)))
       have hβ2:β ≤ nx2:=by have:=hnew.1;omega
       split at hr
       ·obtain ⟨q1,q3,q4⟩:=ih _ _ _ _ _ _ _ _ hr β (fun b c hm=>hB b c (by simp [hm])) hβ2 hfr2
        exact ⟨q1,q3,fun i hi hn=>q4 i hi (hold i hi hn)⟩
       ·obtain ⟨q1,q3,q4⟩:=ih _ _ _ _ _ _ _ _ hr β (fun b c hm=>hB b c (by simpa using hm)) hβ2 hfr2
        exact ⟨q1,q3,fun i hi hn=>q4 i hi (hold i hi hn)⟩
       ·obtain ⟨q1,q3,q4⟩:=ih _ _ _ _ _ _ _ _ hr β (fun b c hm=>hB b c (by simpa using hm)) hβ2 hfr2
        exact ⟨q1,q3,fun i hi hn=>q4 i hi (hold i hi hn)⟩
      ·simp at hr
     ·simp at hr
    |rg d gs keep =>
     simp only [run] at hr
     obtain ⟨⟨m1,h1,nx1⟩,k1,hr⟩:=bnd_some hr
     simp only at hr
     have hn:∀ j,nx ≤ j→j < nx + gs.length→hget h j=none:=fun j hj _=>hf j hj
     obtain ⟨e1,e2⟩:=rops_new hcal gs nx m h (nx + gs.length) m1 h1 nx1 hn (Nat.le_refl _) (fun i hi=>hf i (by omega)) k1
     have hnew1:New h h1 nx nx1:=⟨by omega,fun i hi hc=>e2 i hi (by omega) (by omega)⟩
     obtain ⟨q1,q3,q4⟩:=ih _ _ _ _ _ _ _ _ hr β (fun b c hm=>hB b c (by simp [hm])) (by omega) (hnew1.fresh hf:Fresh h1 nx1)
     exact ⟨q1,q3,fun i hi hn=>q4 i hi (hnew1.2 i hn (.inl (by omega)))⟩
    |rp pm c0 kp gs keep =>
     simp only [run] at hr
     obtain ⟨⟨p1,m1,h1,nx1⟩,k1,hr⟩:=bnd_some hr
     simp only at hr
     have hnew1:New h h1 nx nx1:=ropsD_new hcalP k1 hf
     cases p1 with
     |none =>
      obtain ⟨q1,q3,q4⟩:=ih _ _ _ _ _ _ _ _ hr β (fun b c hm=>hB b c (by simp [hm])) (by have:=hnew1.1;omega) (hnew1.fresh hf:Fresh h1 nx1)
      exact ⟨q1,q3,fun i hi hn=>q4 i hi (hnew1.2 i hn (.inl (by omega)))⟩
     |some u =>
      simp only [Option.some.injEq,Prod.mk.injEq] at hr
      obtain ⟨rfl,rfl,rfl,rfl⟩:=hr
      exact ⟨by have:=hnew1.1;omega,hnew1.fresh hf,fun i hi hn=>hnew1.2 i hn (.inl (by omega))⟩
    |rq gs keep =>
     simp only [run] at hr
     obtain ⟨⟨p1,m1,h1,nx1⟩,k1,hr⟩:=bnd_some hr
     simp only at hr
     have hn:∀ j,nx ≤ j→j < nx + gs.length→hget h j=none:=fun j hj _=>hf j hj
     obtain ⟨e1,e2⟩:=ropsP_new hcalP gs nx m h (nx + gs.length) p1 m1 h1 nx1 hn (Nat.le_refl _) (fun i hi=>hf i (by omega)) k1
     have hnew1:New h h1 nx nx1:=⟨by omega,fun i hi hc=>e2 i hi (by omega) (by omega)⟩
     cases p1 with
     |none =>
      obtain ⟨q1,q3,q4⟩:=ih _ _ _ _ _ _ _ _ hr β (fun b c hm=>hB b c (by simp [hm])) (by omega) (hnew1.fresh hf:Fresh h1 nx1)
      exact ⟨q1,q3,fun i hi hn=>q4 i hi (hnew1.2 i hn (.inl (by omega)))⟩
     |some u =>
      simp only [Option.some.injEq,Prod.mk.injEq] at hr
      obtain ⟨rfl,rfl,rfl,rfl⟩:=hr
      exact ⟨by omega,hnew1.fresh hf,fun i hi hn=>hnew1.2 i hn (.inl (by omega))⟩
    |sq x y =>
     simp only [run] at hr
     exact ih _ _ _ _ _ _ _ _ hr β (fun b c hm=>hB b c (by simpa using hm)) hβ hf
    |cd x y z =>
     simp only [run] at hr
     split at hr
     ·split at hr
      ·exact ih _ _ _ _ _ _ _ _ hr β (fun b c hm=>hB b c (by simpa using hm)) hβ hf
      ·exact ih _ _ _ _ _ _ _ _ hr β (fun b c hm=>hB b c (by simpa using hm)) hβ hf
     ·simp at hr
    |bl id x =>
     simp only [run] at hr
     exact ih _ _ _ _ _ _ _ _ hr β (fun b c hm=>hB b c (by simpa using hm)) hβ hf
    |lp tr x =>
     simp only [run] at hr
     exact ih _ _ _ _ _ _ _ _ hr β (fun b c hm=>by
      simp only [List.mem_cons,reduceCtorEq,false_or] at hm
      rcases hm with hm | hm
      ·cases tr
       ·simp at hm
       ·simp at hm;omega
      ·exact hB b c (by simp [hm])) hβ hf
    |xt id =>
     simp only [run] at hr
     split at hr
     ·rename_i l' hl
      exact ih _ _ _ _ _ _ _ _ hr β (fun b c hm=>hB b c (List.mem_cons_of_mem _ (exit_mem _ _ _ hl _ hm))) hβ hf
     ·simp only [Option.some.injEq,Prod.mk.injEq] at hr
      obtain ⟨rfl,rfl,rfl,rfl⟩:=hr
      exact ⟨hβ,hf,fun _ _ h=>h⟩
    |rt =>
     simp only [run,Option.some.injEq,Prod.mk.injEq] at hr
     obtain ⟨rfl,rfl,rfl,rfl⟩:=hr
     exact ⟨hβ,hf,fun _ _ h=>h⟩
theorem round_new {cal:Call} (hcal:CalOkP P cal) {n:Nat} {d:Rd} {args:List FV} {nx nx':Nat} {v:FV} (hr:round cal n d args h nx=some (v,h',nx')) (hf:Fresh h nx):New h h' nx nx':=by
 unfold round at hr
 split at hr
 ·rename_i f id caps xs
  obtain ⟨_,hr⟩:=chk_some hr
  obtain ⟨⟨ex,m',h1,nx1⟩,k1,k2⟩:=bnd_some hr
  obtain ⟨q1,q3,q4⟩:=run_new hcal n _ _ _ _ _ _ _ _ k1 nx (fun b c hm=>by simp at hm) (Nat.le_refl _) hf
  have base:New h h1 nx nx1:=⟨q1,fun i hi hc=>by rcases hc with hc | hc;exact q4 i hc hi;exact q3 i hc⟩
  simp only [leave] at k2
  split at k2
  ·rename_i hg
   have fin:∀ ob,New h (hset h1 id ob) nx nx1:=fun ob=>⟨base.1,fun i hi hc=>hset_none hg i (base.2 i hi hc)⟩
   split at k2<;>simp only [Option.some.injEq,Prod.mk.injEq,reduceCtorEq] at k2<;>obtain ⟨_,rfl,rfl⟩:=k2<;>exact fin _
  ·simp at k2
 ·simp at hr
theorem calOk_call {T:Tab} (hT:TabOk P T):∀ n,CalOkP P (call T n):=by
 intro n
 induction n with
 |zero=>exact ⟨fun f args h nx v h' nx' hc=>by simp [call] at hc,fun f args h nx v h' nx' hc=>by simp [call] at hc,fun f id caps args h nx v h' nx' hc=>by simp [call] at hc⟩
 |succ n ih =>
  have hrk:=fun f r ct=>(hT.rk f r ct).2
  have hst:=(stable_call T n).np
  have entry:∀ {f d},okFn P (cmOf T) (rdOf T) f d=true→entered P f=true:=fun {f d} hok=>by
   unfold okFn at hok
   unfold entered
   split at hok
   ·rename_i fn hfn
    cases hb:fn.body with
    |none=>rw [hb] at hok;simp at hok
    |some c =>
     rw [hb] at hok
     simp only [Bool.and_eq_true,Bool.not_eq_true'] at hok
     simp only [hfn,hb,Option.isSome,Bool.true_and,hok.2,Bool.not_false]
   ·simp at hok
  refine ⟨?_,?_,?_⟩
  ·intro f args h nx v h' nx' hc hf
   simp only [call] at hc
   cases ht:tget T f with
   |none=>rw [ht] at hc;simp at hc
   |some q =>
    rw [ht] at hc
    cases q with
    |ext gg =>
     simp only at hc
     obtain ⟨k1,hc⟩:=chk_some hc
     obtain ⟨as,k0,hc⟩:=bnd_some hc
     obtain ⟨u,k2,hc⟩:=bnd_some hc
     obtain ⟨k3,hc⟩:=chk_some hc
     simp only [Option.some.injEq,Prod.mk.injEq] at hc
     obtain ⟨rfl,rfl,rfl⟩:=hc
     exact .refl _ _
    |rd d =>
     simp only at hc
     obtain ⟨k1,hc⟩:=chk_some hc
     exact round_new ih hc hf
    |ct c =>
     simp only at hc
     obtain ⟨hlt,hc⟩:=chk_some hc
     obtain ⟨e1,rfl,rfl,e2,e3⟩:=enter_ct hrk ih hst hT.mix (hT.ct f c ht) hc
     exact .refl _ _
    |mr d =>
     simp only at hc
     obtain ⟨hlt,hc⟩:=chk_some hc
     obtain ⟨e1,rfl,rfl,e2,e3⟩:=enter_mr hrk ih hst hT.mix (hT.mr f d ht) hc
     exact .refl _ _
    |fn d =>
     simp only at hc
     obtain ⟨hlt,hc⟩:=chk_some hc
     have hok:=hT.fn f d ht
     cases hm:d.mode with
     |iso =>
      obtain ⟨e1,rfl,rfl,e2,e3⟩:=enter_iso hrk ih hst hT.mix hok hm hc
      exact .refl _ _
     |isf =>
      obtain ⟨e1,rfl,rfl,e3⟩:=enter_isf hrk ih hst hT.mix hok hm hc
      exact .refl _ _
     |isc =>
      obtain ⟨e1,rfl,rfl,e3⟩:=enter_isc hrk ih hst hT.mix hok hm hc
      exact ⟨Nat.le_refl _,fun i hi _=>froze_none _ _ hi⟩
     |shr =>
      unfold enter at hc
      obtain ⟨hnp,hc⟩:=chk_some hc
      rw [hm] at hc
      simp only at hc
      obtain ⟨x,k1,hc⟩:=bnd_some hc
      obtain ⟨u,k2,hc⟩:=bnd_some hc
      simp only [Option.some.injEq,Prod.mk.injEq] at hc
      obtain ⟨rfl,rfl,rfl⟩:=hc
      exact (body_sound hrk ih hst hT.mix hok hnp k1 k2 hf).2.1
  ·intro f args h nx v h' nx' hc hlt0
   simp only [call] at hc
   cases ht:tget T f with
   |none=>rw [ht] at hc;simp at hc
   |some q =>
    rw [ht] at hc
    cases q with
    |ext gg =>
     simp only at hc
     obtain ⟨k1,hc⟩:=chk_some hc
     obtain ⟨as,k0,hc⟩:=bnd_some hc
     obtain ⟨u,k2,hc⟩:=bnd_some hc
     obtain ⟨k3,hc⟩:=chk_some hc
     simp only [Option.some.injEq,Prod.mk.injEq] at hc
     obtain ⟨rfl,rfl,rfl⟩:=hc
     obtain ⟨e1,e2⟩:=hT.ext f gg ht
     refine ⟨e1,fun B w0 g w xs hI hgl hx _=>?_⟩
     have hx2:=((frz_both (g2:=⟨fun _=>none,fun b=>b < w.heap.size⟩) hI (fun b hb=>hI.zlt b hb) (fun i l b hl hbk=>(hI.own i l b hl hbk).2.2) deep).2 args as k0).val xs hx
     refine (e2 as _ k2 (fun b=>b < w.heap.size) w xs (fun _ h=>h) (hgl.scope fun b hb=>hI.zlt b hb) hx2).mono ?_
     rintro e w' ⟨y,rfl,hb,h1⟩
     exact ⟨⟨g.κ,zone g.Z w w'⟩,.inl ⟨y,rfl,h1.flat k3⟩,Nx.scope hI hb,fun _ _ h=>⟨h,rfl⟩⟩
    |rd d =>
     simp only at hc
     obtain ⟨k1,hc⟩:=chk_some hc
     omega
    |ct c =>
     simp only at hc
     obtain ⟨hlt,hc⟩:=chk_some hc
     obtain ⟨e1,rfl,rfl,e2,e3⟩:=enter_ct hrk ih hst hT.mix (hT.ct f c ht) hc
     exact ⟨e1,fun B w0 g w xs hI hgl hx _=>isoCall_sound e3.pan e2 hI hgl hx _⟩
    |mr d =>
     simp only at hc
     obtain ⟨hlt,hc⟩:=chk_some hc
     obtain ⟨e1,rfl,rfl,e2,e3⟩:=enter_mr hrk ih hst hT.mix (hT.mr f d ht) hc
     exact ⟨e1,fun B w0 g w xs hI hgl hx _=>isoCall_sound e3.pan e2 hI hgl hx _⟩
    |fn d =>
     simp only at hc
     obtain ⟨hlt,hc⟩:=chk_some hc
     have hok:=hT.fn f d ht
     cases hm:d.mode with
     |iso =>
      obtain ⟨e1,rfl,rfl,e2,e3⟩:=enter_iso hrk ih hst hT.mix hok hm hc
      exact ⟨e1,fun B w0 g w xs hI hgl hx _=>isoCall_sound e3 e2 hI hgl hx _⟩
     |isf =>
      obtain ⟨e1,rfl,rfl,e3⟩:=enter_isf hrk ih hst hT.mix hok hm hc
      exact ⟨e1,fun B w0 g w xs hI hgl hx _=>e3 B w0 g w xs hI hgl hx⟩
     |isc =>
      obtain ⟨e1,rfl,rfl,e3⟩:=enter_isc hrk ih hst hT.mix hok hm hc
      exact ⟨e1,fun B w0 g w xs hI hgl hx _=>e3 B w0 g w xs hI hgl hx⟩
     |shr =>
      unfold enter at hc
      obtain ⟨hnp,hc⟩:=chk_some hc
      rw [hm] at hc
      simp only at hc
      obtain ⟨x,k1,hc⟩:=bnd_some hc
      obtain ⟨u,k2,hc⟩:=bnd_some hc
      simp only [Option.some.injEq,Prod.mk.injEq] at hc
      obtain ⟨rfl,rfl,rfl⟩:=hc
      exact ⟨entry hok,fun B w0 g w xs hI hgl hx hf=>(body_sound hrk ih hst hT.mix hok hnp k1 k2 hf).2.2 B w0 g w xs hI hgl hx⟩
  ·intro f id caps args h nx v h' nx' hc hge B w0 g w y xs hI hgl hy hx hf
   simp only [call] at hc
   cases ht:tget T f with
   |none=>rw [ht] at hc;simp at hc
   |some q =>
    rw [ht] at hc
    cases q with
    |ext gg =>
     simp only at hc
     obtain ⟨k1,hc⟩:=chk_some hc
     omega
    |fn d =>
     simp only at hc
     obtain ⟨hlt,hc⟩:=chk_some hc
     omega
    |ct c =>
     simp only at hc
     obtain ⟨hlt,hc⟩:=chk_some hc
     omega
    |mr c =>
     simp only at hc
     obtain ⟨hlt,hc⟩:=chk_some hc
     omega
    |rd d =>
     simp only at hc
     obtain ⟨k1,hc⟩:=chk_some hc
     exact round_sound (fun f r ct=>(hT.rk f r ct).symm) ih hst hT.mix (by simp [rdOf,ht]) hc hf hI hgl hy hx
end
end Go.FI
