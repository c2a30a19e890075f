/- Walks through maps in any order,without a bound on steps;functions that catch what panics. -/
import Derived.Test.YtkobnfjeehnhlaaGreatDoorFIY
set_option linter.all false
namespace Go.FI
section
variable {T:Tab}
theorem run_up {k k':Nat} (hk:k ≤ k') {l:List I} {m:Tm} {h:Heap} {nx:Nat} {x:Ex × Tm × Heap × Nat} (hx:run (call T k) k l m h nx=some x):run (call T k') k' l m h nx=some x :=
 run_le (call_le T k k' hk) k k' hk _ _ _ _ _ hx
theorem rops_up {k k':Nat} (hk:k ≤ k') {i:Nat} {l:List G} {m:Tm} {h:Heap} {nx:Nat} {x:Tm × Heap × Nat} (hx:rops (np (call T k)) i l m h nx=some x):rops (np (call T k')) i l m h nx=some x :=
 rops_le (np_le (call_le T k k' hk)) _ _ _ _ _ _ hx
theorem runs_cont {l:List I} {m:Tm} {h:Heap} {nx:Nat} {x:Ex × Tm × Heap × Nat} (hx:runs T l m h nx=some x):∃ k,run (call T k) k l m h nx=some x:=by
 obtain ⟨n,h4⟩:=runs_some.1 hx
 obtain ⟨k,_,h5⟩:=run_cont n _ _ _ _ _ h4
 exact ⟨k,h5⟩
theorem runPre_cont:∀ (ps:List C) (m:Tm) (h:Heap) (nx:Nat) (x:Ex × Tm × Heap × Nat),runPre (runs T) ps m h nx=some x→∃ k,runPre (run (call T k) k) ps m h nx=some x:=by
 intro ps
 induction ps with
 |nil=>intro m h nx x hx;exact ⟨0,hx⟩
 |cons p ps ih =>
  intro m h nx x hx
  simp only [runPre] at hx
  obtain ⟨⟨ex,y⟩,h1,h2⟩:=bnd_some hx
  obtain ⟨k1,h1⟩:=runs_cont h1
  cases ex with
  |fin =>
   obtain ⟨k2,h3⟩:=ih _ _ _ _ h2
   refine ⟨max k1 k2,?_⟩
   simp only [runPre]
   refine bnd_mk (run_up (by omega) h1) ?_
   exact runPre_map (fun l m h nx x hx=>run_up (by omega) hx) _ _ _ _ _ h3
  |ret=>exact ⟨k1,by simp only [runPre];exact bnd_mk h1 h2⟩
  |xt=>exact ⟨k1,by simp only [runPre];exact bnd_mk h1 h2⟩
  |pan=>exact ⟨k1,by simp only [runPre];exact bnd_mk h1 h2⟩
theorem runIt_cont {d:Mr} {e:FV × FV} {m:Tm} {h:Heap} {nx:Nat} {x:Tm × Heap × Nat} (hx:runIt (rops (np (lim T))) (runs T) d e m h nx=some x):∃ k,runIt (rops (np (call T k))) (run (call T k) k) d e m h nx=some x:=by
 unfold runIt at hx
 obtain ⟨y,h1,h2⟩:=bnd_some hx
 obtain ⟨z,h3,h4⟩:=bnd_some h2
 obtain ⟨k1,h1⟩:=rops_cont _ _ _ _ _ _ h1
 obtain ⟨k2,h3⟩:=runs_cont h3
 refine ⟨max k1 k2,?_⟩
 unfold runIt
 exact bnd_mk (rops_up (by omega) h1) (bnd_mk (run_up (by omega) h3) h4)
theorem same_cont {α:Type} {F:α→Option FV} {G:Nat→α→Option FV} (up:∀ k k' x r,k ≤ k'→G k x=some r→G k' x=some r):∀ {l:List α} {r:FV},(∀ x ∈ l,∀ r,F x=some r→∃ k,G k x=some r)→same (l.map F)=some r→∃ k,same (l.map (G k))=some r:=by
 intro l
 induction l with
 |nil=>intro r _ h;exact ⟨0,h⟩
 |cons x l ih =>
  intro r hfg h
  cases l with
  |nil =>
   simp only [List.map_cons,List.map_nil,same] at h ⊢
   exact hfg x (by simp) _ h
  |cons y l =>
   simp only [List.map_cons,same] at h ⊢
   obtain ⟨a,h1,h⟩:=bnd_some h
   obtain ⟨b,h2,h⟩:=bnd_some h
   obtain ⟨k1,h1⟩:=hfg x (by simp) _ h1
   obtain ⟨k2,h2⟩:=ih (fun z hz=>hfg z (by simp [hz])) h2
   refine ⟨max k1 k2,bnd_mk (up _ _ _ _ (by omega) h1) (bnd_mk (same_map (l:=y::l) (fun z _ r hr=>up _ _ _ _ (by omega) hr) h2) h)⟩
theorem runAll_cont {d:Mr} {iid:Nat}:∀ (c:Nat) (l:List (FV × FV)) (m:Tm) (h:Heap) (nx:Nat) (r:FV),runAll (rops (np (lim T))) (runs T) d iid c l m h nx=some r→∃ k,runAll (rops (np (call T k))) (run (call T k) k) d iid c l m h nx=some r:=by
 intro c
 induction c with
 |zero =>
  intro l m h nx r hx
  cases l with
  |nil =>
   simp only [runAll] at hx ⊢
   obtain ⟨h1,hx⟩:=chk_some hx
   obtain ⟨y,h2,hx⟩:=bnd_some hx
   obtain ⟨k,h2⟩:=runs_cont h2
   refine ⟨k,?_⟩
   rw [chk,if_pos h1]
   exact bnd_mk h2 hx
  |cons=>simp [runAll] at hx
 |succ c ih =>
  intro l m h nx r hx
  cases l with
  |nil =>
   simp only [runAll] at hx ⊢
   obtain ⟨h1,hx⟩:=chk_some hx
   obtain ⟨y,h2,hx⟩:=bnd_some hx
   obtain ⟨k,h2⟩:=runs_cont h2
   refine ⟨k,?_⟩
   rw [chk,if_pos h1]
   exact bnd_mk h2 hx
  |cons e es =>
   simp only [runAll] at hx ⊢
   obtain ⟨h1,hx⟩:=chk_some hx
   have:=same_cont (l:=picks (e::es)) (F:=fun p=>bnd (runIt (rops (np (lim T))) (runs T) d p.1 (keepOf m d.keep0) h nx) fun y=>runAll (rops (np (lim T))) (runs T) d iid c p.2 y.1 y.2.1 y.2.2)
    (G:=fun k p=>bnd (runIt (rops (np (call T k))) (run (call T k) k) d p.1 (keepOf m d.keep0) h nx) fun y=>runAll (rops (np (call T k))) (run (call T k) k) d iid c p.2 y.1 y.2.1 y.2.2)
    (fun k k' x r hk hr=>by
     obtain ⟨y,h3,h4⟩:=bnd_some hr
     exact bnd_mk (runIt_map (fun _ _ _ _ _ _ hx=>rops_up hk hx) (fun _ _ _ _ _ hx=>run_up hk hx) h3) (runAll_map (fun _ _ _ _ _ _ hx=>rops_up hk hx) (fun _ _ _ _ _ hx=>run_up hk hx) _ _ _ _ _ _ h4))
    (fun x _ r hr=>by
     obtain ⟨y,h3,h4⟩:=bnd_some hr
     obtain ⟨k1,h3⟩:=runIt_cont h3
     obtain ⟨k2,h4⟩:=ih _ _ _ _ _ h4
     exact ⟨max k1 k2,bnd_mk (runIt_map (fun _ _ _ _ _ _ hx=>rops_up (by omega) hx) (fun _ _ _ _ _ hx=>run_up (by omega) hx) h3) (runAll_map (fun _ _ _ _ _ _ hx=>rops_up (by omega) hx) (fun _ _ _ _ _ hx=>run_up (by omega) hx) _ _ _ _ _ _ h4)⟩) hx
   obtain ⟨k,hk⟩:=this
   exact ⟨k,by rw [chk,if_pos h1];exact hk⟩
theorem mrV_cont {d:Mr} {args:List FV} {r:FV} (hx:mrV (rops (np (lim T))) (runs T) d args=some r):∃ k,mrV (rops (np (call T k))) (run (call T k) k) d args=some r:=by
 unfold mrV at hx
 obtain ⟨h1,hx⟩:=chk_some hx
 obtain ⟨⟨ex,m1,h1',nx1⟩,h2,hx⟩:=bnd_some hx
 obtain ⟨k1,h2⟩:=runPre_cont _ _ _ _ _ h2
 cases ex with
 |ret =>
  refine ⟨k1,?_⟩
  unfold mrV
  rw [chk,if_pos h1]
  exact bnd_mk h2 hx
 |fin =>
  simp only at hx
  cases he:gt m1 d.mp with
  |map id =>
   rw [he] at hx
   simp only at hx
   cases hg:hget h1' id with
   |none=>rw [hg] at hx;cases hx
   |some o =>
    rw [hg] at hx
    cases o with
    |mp en =>
     obtain ⟨k2,hx⟩:=runAll_cont _ _ _ _ _ _ hx
     refine ⟨max k1 k2,?_⟩
     unfold mrV
     rw [chk,if_pos h1]
     refine bnd_mk (runPre_map (fun _ _ _ _ _ hx=>run_up (by omega) hx) _ _ _ _ _ h2) ?_
     simp only [he,hg]
     exact runAll_map (fun _ _ _ _ _ _ hx=>rops_up (by omega) hx) (fun _ _ _ _ _ hx=>run_up (by omega) hx) _ _ _ _ _ _ hx
    |_=>cases hx
  |_=>rw [he] at hx;cases hx
 |_=>cases hx
theorem lim_mr {f:Nat} {d:Mr} {args:List FV} {v:FV} (ht:tget T f=some (.mr d)) (hv:mrV (rops (np (lim T))) (runs T) d args=some v) (hlt:f < RB:=by decide) (h:Heap) (nx:Nat):lim T f args h nx=some (v,h,nx):=by
 obtain ⟨k,hk⟩:=mrV_cont hv
 refine lim_some.2 ⟨k + 1,?_⟩
 simp only [call,ht]
 rw [chk,if_pos hlt,enterM]
 exact bnd_mk hk rfl
theorem same_all {α:Type} {F:α→Option FV} {v:FV}:∀ {l:List α},l ≠ []→(∀ x ∈ l,F x=some v)→same (l.map F)=some v:=by
 intro l
 induction l with
 |nil=>intro h _;exact absurd rfl h
 |cons x l ih =>
  intro _ h
  cases l with
  |nil=>simp only [List.map_cons,List.map_nil,same];exact h x (by simp)
  |cons y l =>
   simp only [List.map_cons,same]
   refine bnd_mk (h x (by simp)) (bnd_mk (ih (by simp) fun z hz=>h z (by simp [hz])) ?_)
   rw [if_pos (eqv_refl v)]
theorem picks_perm {α:Type}:∀ (l:List α) (p:α × List α),p ∈ picks l→(p.1::p.2).Perm l∧p.2.length + 1=l.length:=by
 intro l
 induction l with
 |nil=>intro p h;cases h
 |cons a r ih =>
  intro p h
  simp only [picks,List.mem_cons,List.mem_map] at h
  rcases h with rfl | ⟨q,hq,rfl⟩
  ·exact ⟨List.Perm.refl _,rfl⟩
  ·obtain ⟨h1,h2⟩:=ih q hq
   exact ⟨(List.Perm.swap a q.1 q.2).trans (h1.cons a),by simp only [List.length_cons];omega⟩
theorem runAll_inv {ro:Ro} {rn:Rn} {d:Mr} {iid:Nat} {v:FV} {en:List (FV × FV)} (P:List (FV × FV)→Tm→Heap→Nat→Prop)
  (it:∀ dn m h nx,P dn m h nx→eqv (gt (keepOf m d.keep0) d.it) (.ptr iid 1 0 0)=true)
  (step:∀ dn e rest m h nx,(dn ++ e::rest).Perm en→P dn m h nx→∃ y,runIt ro rn d e (keepOf m d.keep0) h nx=some y∧P (dn ++ [e]) y.1 y.2.1 y.2.2)
  (fin:∀ dn m h nx,dn.Perm en→P dn m h nx→bnd (rn [.code d.post] (keepOf m d.keep0) h nx) (resM d.res)=some v) :
  ∀ (c:Nat) (l dn:List (FV × FV)) (m:Tm) (h:Heap) (nx:Nat),l.length ≤ c→(dn ++ l).Perm en→P dn m h nx→runAll ro rn d iid c l m h nx=some v:=by
 intro c
 induction c with
 |zero =>
  intro l dn m h nx hl hp hP
  cases l with
  |nil =>
   simp only [runAll]
   rw [chk,if_pos (it _ _ _ _ hP)]
   exact fin dn m h nx (by simpa using hp) hP
  |cons e es=>simp at hl
 |succ c ih =>
  intro l dn m h nx hl hp hP
  cases l with
  |nil =>
   simp only [runAll]
   rw [chk,if_pos (it _ _ _ _ hP)]
   exact fin dn m h nx (by simpa using hp) hP
  |cons e es =>
   simp only [runAll]
   rw [chk,if_pos (it _ _ _ _ hP)]
   refine same_all (by simp [picks]) fun p hpk=>?_
   obtain ⟨q1,q2⟩:=picks_perm _ p hpk
   have hperm:(dn ++ p.1::p.2).Perm en:=(List.Perm.append_left dn q1).trans hp
   obtain ⟨y,h1,h2⟩:=step dn p.1 p.2 m h nx hperm hP
   refine bnd_mk h1 (ih p.2 (dn ++ [p.1]) y.1 y.2.1 y.2.2 ?_ (by simpa using hperm) h2)
   simp only [List.length_cons] at hl q2;omega
theorem Ok_pre {p:C} {ps:List C} {m:Tm} {h:Heap} {nx:Nat} {q:Post Out} (hh:@Ok Out (runs T [.code p] m h nx) ⟨fun x=>match x.1 with | .fin=>@Ok Out (runPre (runs T) ps x.2.1 x.2.2.1 x.2.2.2) q | e=>q.q (e,x.2)⟩):@Ok Out (runPre (runs T) (p::ps) m h nx) q:=by
 obtain ⟨⟨ex,y⟩,h1,h2⟩:=hh
 cases ex with
 |fin =>
  obtain ⟨z,h3,h4⟩:=h2
  exact ⟨z,by simp only [runPre];exact bnd_mk h1 h3,h4⟩
 |ret=>exact ⟨_,by simp only [runPre];exact bnd_mk h1 rfl,h2⟩
 |xt e=>exact ⟨_,by simp only [runPre];exact bnd_mk h1 rfl,h2⟩
 |pan e=>exact ⟨_,by simp only [runPre];exact bnd_mk h1 rfl,h2⟩
theorem Ok_pre0 {m:Tm} {h:Heap} {nx:Nat} {q:Post Out} (hh:q.q (.fin,m,h,nx)):@Ok Out (runPre (runs T) [] m h nx) q:=⟨_,rfl,hh⟩
theorem mr_ok {d:Mr} {args:List FV} {v:FV} (hl:args.length=d.np) (hp:pures args=true)
  (hh:@Ok Out (runPre (runs T) d.pre (params 0 args) [] 0) ⟨fun x=>match x.1 with
   |.ret=>resM d.res (.ret,x.2)=some v
   |.fin=>∃ id en,gt x.2.1 d.mp=.map id∧hget x.2.2.1 id=some (.mp en)∧runAll (rops (np (lim T))) (runs T) d x.2.2.2 en.length en (put x.2.1 (some d.it) (.ptr x.2.2.2 1 0 0)) ((x.2.2.2,.mit)::hset x.2.2.1 id (.fmp en)) (x.2.2.2 + 1)=some v
   |_=>False⟩):mrV (rops (np (lim T))) (runs T) d args=some v:=by
 obtain ⟨⟨ex,m1,h1',nx1⟩,h1,h2⟩:=hh
 unfold mrV
 rw [chk,if_pos ⟨hl,hp⟩]
 refine bnd_mk h1 ?_
 cases ex with
 |ret=>exact h2
 |fin =>
  obtain ⟨id,en,e1,e2,e3⟩:=h2
  simp only at e1 e2 e3 ⊢
  rw [e1]
  simp only
  rw [e2]
  exact e3
 |xt e=>exact h2.elim
 |pan e=>exact h2.elim
theorem resM_r {rs:List RV} {m:Tm} {h:Heap} {nx:Nat}:resM rs (.ret,m,h,nx)=@B (List FV) FV (readRes m h rs) ⟨fun vs=>frz h deep (result vs)⟩:=rfl
end
end Go.FI
