/- The interpreter without a bound on its steps. -/
import Derived.Test.YtkobnfjeehnhlaaGreatDoorFICal2
set_option linter.all false
namespace Go.FI
open Go.RowKit
def Le (c c':Call):Prop:=∀ f a h nx r,c f a h nx=some r→c' f a h nx=some r
theorem bnd_mk {α β:Type} {x:Option α} {f:α→Option β} {a:α} {r:β} (h:x=some a) (k:f a=some r):bnd x f=some r:=by rw [h];exact k
theorem np_le {c c':Call} (hc:Le c c'):Le (np c) (np c'):=fun f a h nx r hr=>by
 unfold np at hr ⊢
 obtain ⟨x,h1,h2⟩:=bnd_some hr
 exact bnd_mk (hc _ _ _ _ _ h1) h2
theorem opg_le {c c':Call} (hc:Le c c') {id:Nat} {g:G} {m:Tm} {h:Heap} {nx:Nat} {r:FV × Heap × Nat} (hr:opg c id g m h nx=some r):opg c' id g m h nx=some r:=by
 obtain ⟨d,gd,o,re⟩:=g
 cases o
 case cl f xs=>exact hc _ _ _ _ _ hr
 case cw f xs =>
  simp only [opg] at hr ⊢
  split at hr
  ·exact hc _ _ _ _ _ hr
  ·exact hc _ _ _ _ _ hr
  ·simp at hr
 all_goals exact hr
theorem rechk_map {α:Type} {h:Heap} {m:Tm} {x y:Option α} (hxy:∀ r,x=some r→y=some r):∀ (l:List (Option (Nat × Bool) × Option Nat × Nat × Nat)) (r:α),rechk h m x l=some r→rechk h m y l=some r:=by
 intro l
 induction l with
 |nil=>exact hxy
 |cons p l ih =>
  obtain ⟨gd,ag,n,d⟩:=p
  intro r hr
  simp only [rechk] at hr ⊢
  obtain ⟨b,h1,h2⟩:=bnd_some hr
  refine bnd_mk h1 ?_
  cases b with
  |true =>
   simp only [if_true] at h2 ⊢
   obtain ⟨h3,h4⟩:=chk_some h2
   unfold chk
   rw [if_pos h3]
   exact ih r h4
  |false =>
   simp only [Bool.false_eq_true,if_false] at h2 ⊢
   exact ih r h2
theorem rops_le {c c':Call} (hc:Le c c'):∀ (gs:List G) (id:Nat) (m:Tm) (h:Heap) (nx:Nat) (r:Tm × Heap × Nat),rops c id gs m h nx=some r→rops c' id gs m h nx=some r:=by
 intro gs
 induction gs with
 |nil=>intro id m h nx r hr;exact hr
 |cons g gs ih =>
  intro id m h nx r hr
  simp only [rops] at hr ⊢
  obtain ⟨b,h1,h2⟩:=bnd_some hr
  refine bnd_mk h1 ?_
  split at h2
  ·rename_i hb
   rw [if_pos hb]
   obtain ⟨x,h3,h4⟩:=bnd_some h2
   exact bnd_mk (opg_le hc h3) (rechk_map (fun r hr=>ih _ _ _ _ r hr) _ _ h4)
  ·rename_i hb
   rw [if_neg hb]
   exact ih _ _ _ _ _ h2
theorem ropsP_le {c c':Call} (hc:Le c c'):∀ (gs:List G) (id:Nat) (m:Tm) (h:Heap) (nx:Nat) (r:Option FV × Tm × Heap × Nat),ropsP c id gs m h nx=some r→ropsP c' id gs m h nx=some r:=by
 intro gs
 induction gs with
 |nil=>intro id m h nx r hr;exact hr
 |cons g gs ih =>
  intro id m h nx r hr
  simp only [ropsP] at hr ⊢
  obtain ⟨b,h1,h2⟩:=bnd_some hr
  refine bnd_mk h1 ?_
  split at h2
  ·rename_i hb
   rw [if_pos hb]
   split at h2
   ·exact h2
   ·obtain ⟨y,h3,h4⟩:=bnd_some h2
    refine bnd_mk (hc _ _ _ _ _ h3) ?_
    split at h4
    ·exact h4
    ·exact ih _ _ _ _ _ h4
   ·obtain ⟨y,h3,h4⟩:=bnd_some h2
    exact bnd_mk (opg_le (np_le hc) h3) (ih _ _ _ _ _ h4)
  ·rename_i hb
   rw [if_neg hb]
   exact ih _ _ _ _ _ h2
theorem ropsD_le {c c':Call} (hc:Le c c') {id k:Nat} {gs:List G} {m:Tm} {h:Heap} {nx:Nat} {r:Option FV × Tm × Heap × Nat} (hr:ropsD c id k gs m h nx=some r):ropsD c' id k gs m h nx=some r:=by
 unfold ropsD at hr ⊢
 obtain ⟨x,h1,hr⟩:=bnd_some hr
 refine bnd_mk (rops_le (np_le hc) _ _ _ _ _ _ h1) ?_
 split at hr
 ·obtain ⟨y,h2,hr⟩:=bnd_some hr
  refine bnd_mk (hc _ _ _ _ _ h2) ?_
  split at hr
  ·exact hr
  ·obtain ⟨z,h3,hr⟩:=bnd_some hr
   exact bnd_mk (rechk_map (fun r hr=>rops_le (np_le hc) _ _ _ _ _ _ hr) _ _ h3) hr
 ·exact hr
theorem run_le {c c':Call} (hc:Le c c'):∀ (n n':Nat),n ≤ n'→∀ (l:List I) (m:Tm) (h:Heap) (nx:Nat) (r:Ex × Tm × Heap × Nat),run c n l m h nx=some r→run c' n' l m h nx=some r:=by
 intro n
 induction n with
 |zero=>intro n' _ l m h nx r hr;simp [run] at hr
 |succ n ih =>
  intro n' hn l m h nx r hr
  obtain ⟨k,rfl⟩:∃ k,n'=k + 1:=⟨n' - 1,by omega⟩
  have ih:=ih k (by omega)
  cases l with
  |nil=>simpa only [run] using hr
  |cons i l =>
   cases i with
   |inB id=>simp only [run] at hr ⊢; exact ih _ _ _ _ _ hr
   |inS c=>simp only [run] at hr ⊢; exact ih _ _ _ _ _ hr
   |beg id =>
    simp only [run] at hr ⊢
    split at hr
    ·exact ih _ _ _ _ _ hr
    ·simp at hr
   |inL t c =>
    cases t with
    |none=>simp only [run] at hr ⊢; exact ih _ _ _ _ _ hr
    |some b =>
     simp only [run] at hr ⊢
     obtain ⟨h1,h2⟩:=chk_some hr
     unfold chk
     rw [if_pos h1]
     exact ih _ _ _ _ _ h2
   |code c =>
    cases c with
    |bad=>simp only [run] at hr;cases hr
    |sk=>simp only [run] at hr ⊢; exact ih _ _ _ _ _ hr
    |lb t=>simp only [run] at hr ⊢; exact ih _ _ _ _ _ hr
    |sc c=>simp only [run] at hr ⊢; exact ih _ _ _ _ _ hr
    |go t =>
     simp only [run] at hr ⊢
     split at hr
     ·exact ih _ _ _ _ _ hr
     ·simp at hr
    |rf f x ct =>
     simp only [run] at hr ⊢
     split at hr
     ·obtain ⟨y,h1,h2⟩:=bnd_some hr
      refine bnd_mk (np_le hc _ _ _ _ _ h1) ?_
      split at h2
      ·rename_i hg
       obtain ⟨h3,h4⟩:=chk_some h2
       simp only [hg,chk,if_pos h3]
       split at h4<;>exact ih _ _ _ _ _ h4
      ·simp at h2
     ·simp at hr
    |rg d gs keep =>
     simp only [run] at hr ⊢
     obtain ⟨x,h1,h2⟩:=bnd_some hr
     exact bnd_mk (rops_le (np_le hc) _ _ _ _ _ _ h1) (ih _ _ _ _ _ h2)
    |rp pm c0 kp gs keep =>
     simp only [run] at hr ⊢
     obtain ⟨x,h1,h2⟩:=bnd_some hr
     refine bnd_mk (ropsD_le hc h1) ?_
     split at h2
     ·exact ih _ _ _ _ _ h2
     ·exact h2
    |rq gs keep =>
     simp only [run] at hr ⊢
     obtain ⟨x,h1,h2⟩:=bnd_some hr
     refine bnd_mk (ropsP_le hc _ _ _ _ _ _ h1) ?_
     split at h2
     ·exact ih _ _ _ _ _ h2
     ·exact h2
    |sq a b=>simp only [run] at hr ⊢; exact ih _ _ _ _ _ hr
    |cd x a b =>
     simp only [run] at hr ⊢
     split at hr
     ·split at hr
      ·rename_i hb;rw [if_pos hb];exact ih _ _ _ _ _ hr
      ·rename_i hb;rw [if_neg hb];exact ih _ _ _ _ _ hr
     ·simp at hr
    |bl id c=>simp only [run] at hr ⊢; exact ih _ _ _ _ _ hr
    |lp t c=>simp only [run] at hr ⊢; exact ih _ _ _ _ _ hr
    |xt id =>
     simp only [run] at hr ⊢
     split at hr
     ·exact ih _ _ _ _ _ hr
     ·exact hr
    |rt=>simpa only [run] using hr
def enterWith (rn:List I→Tm→Heap→Nat→Option (Ex × Tm × Heap × Nat)) (f:Fn) (args:List FV) (h:Heap) (nx:Nat):Option (FV × Heap × Nat) :=
 chk (args.length=f.np) <| match f.mode with
 |.iso=>chk (pures args=true) <| bnd (rn [.code f.body] (params 0 args) [] 0) fun x =>
   bnd (finish f x) fun v=>bnd (frz x.2.2.1 deep v) fun r=>some (r,h,nx)
 |.isf=>bnd (frzs h deep args) fun as=>bnd (rn [.code f.body] (params 0 as) [] 0) fun x =>
   bnd (finish f x) fun v=>chk (flat v=true) (some (v,h,nx))
 |.isc=>bnd (frzs h deep args) fun as=>bnd (rn [.code f.body] (params 0 as) [] 0) fun x =>
   bnd (finish f x) fun v=>bnd (frz x.2.2.1 deep v) fun r=>some (r,froze h (idL h deep args),nx)
 |.shr=>bnd (rn [.code f.body] (params 0 args) h nx) fun x =>
   bnd (finish f x) fun v=>some (v,x.2.2.1,x.2.2.2)
theorem enter_eq (cal:Call) (n:Nat) (f:Fn) (args:List FV) (h:Heap) (nx:Nat):enter cal n f args h nx=enterWith (run cal n) f args h nx:=rfl
theorem enterWith_map {rn rn':List I→Tm→Heap→Nat→Option (Ex × Tm × Heap × Nat)} {f:Fn} (hr:∀ m h nx x,rn [.code f.body] m h nx=some x→rn' [.code f.body] m h nx=some x) {args:List FV} {h:Heap} {nx:Nat} {r:FV × Heap × Nat}
  (he:enterWith rn f args h nx=some r):enterWith rn' f args h nx=some r:=by
 unfold enterWith at he ⊢
 obtain ⟨h1,he⟩:=chk_some he
 rw [chk,if_pos h1]
 cases hm:f.mode with
 |iso =>
  rw [hm] at he
  simp only at he ⊢
  obtain ⟨h2,he⟩:=chk_some he
  rw [chk,if_pos h2]
  obtain ⟨x,h3,he⟩:=bnd_some he
  exact bnd_mk (hr _ _ _ _ h3) he
 |isf =>
  rw [hm] at he
  simp only at he ⊢
  obtain ⟨as,h2,he⟩:=bnd_some he
  obtain ⟨x,h3,he⟩:=bnd_some he
  exact bnd_mk h2 (bnd_mk (hr _ _ _ _ h3) he)
 |isc =>
  rw [hm] at he
  simp only at he ⊢
  obtain ⟨as,h2,he⟩:=bnd_some he
  obtain ⟨x,h3,he⟩:=bnd_some he
  exact bnd_mk h2 (bnd_mk (hr _ _ _ _ h3) he)
 |shr =>
  rw [hm] at he
  simp only at he ⊢
  obtain ⟨x,h3,he⟩:=bnd_some he
  exact bnd_mk (hr _ _ _ _ h3) he
def roundWith (rn:List I→Tm→Heap→Nat→Option (Ex × Tm × Heap × Nat)) (d:Rd) (args:List FV) (h:Heap) (nx:Nat):Option (FV × Heap × Nat) :=
 match args with
 |.yl _ id caps::xs=>chk (xs.length=d.ps.length∧caps.length=d.ct.length∧isLp h id=true)
   (bnd (rn [.code d.asg,.beg id,.code d.body] (zipTm d.ps xs ++ zipTm d.ct caps) h nx) (leave id))
 |_=>none
theorem round_eq (cal:Call) (n:Nat) (d:Rd) (args:List FV) (h:Heap) (nx:Nat):round cal n d args h nx=roundWith (run cal n) d args h nx:=rfl
theorem roundWith_map {rn rn':List I→Tm→Heap→Nat→Option (Ex × Tm × Heap × Nat)} {d:Rd} (hr:∀ l m h nx x,rn l m h nx=some x→rn' l m h nx=some x) {args:List FV} {h:Heap} {nx:Nat} {r:FV × Heap × Nat}
  (he:roundWith rn d args h nx=some r):roundWith rn' d args h nx=some r:=by
 unfold roundWith at he ⊢
 split at he
 ·obtain ⟨h1,he⟩:=chk_some he
  obtain ⟨x,h2,h3⟩:=bnd_some he
  rw [chk,if_pos h1]
  exact bnd_mk (hr _ _ _ _ _ h2) h3
 ·simp at he
def catchWith (rg:Option (Tm × Heap × Nat)) (rn:List I→Tm→Heap→Nat→Option (Ex × Tm × Heap × Nat)) (c:Ct) (args:List FV) (h:Heap) (nx:Nat):Option (FV × Heap × Nat) :=
 chk (args.length=c.np∧pures args=true) <| bnd (bnd rg fun x =>
  bnd (rn [.code c.rest] (put (keepOf x.1 c.keep) (some c.dst) (.fn c.g (evs x.1 (c.ct.map .t)))) x.2.1 x.2.2) fun y =>
   bnd (caught y.1) fun v =>
    bnd (rn [.code c.hb] ((c.ht,v)::params 0 (evs x.1 (c.ct.map .t))) y.2.2.1 y.2.2.2) fun z =>
     chk (isEnd z.1=true) (some (y.2.1,z.2.2.1,z.2.2.2))) fun x =>
  bnd (readRes x.1 x.2.1 c.res) fun vs=>bnd (frz x.2.1 deep (result vs)) fun r=>some (r,h,nx)
theorem catch_eq (cal:Call) (n:Nat) (c:Ct) (args:List FV) (h:Heap) (nx:Nat):enterC cal n c args h nx=catchWith (rops (np cal) 0 c.pre (params 0 args) [] c.pre.length) (run cal n) c args h nx:=rfl
theorem catchWith_map {rg rg':Option (Tm × Heap × Nat)} {rn rn':List I→Tm→Heap→Nat→Option (Ex × Tm × Heap × Nat)} {c:Ct} (hg:∀ x,rg=some x→rg'=some x) (hr:∀ l m h nx x,rn l m h nx=some x→rn' l m h nx=some x) {args:List FV} {h:Heap} {nx:Nat} {r:FV × Heap × Nat}
  (he:catchWith rg rn c args h nx=some r):catchWith rg' rn' c args h nx=some r:=by
 unfold catchWith at he ⊢
 obtain ⟨h1,he⟩:=chk_some he
 rw [chk,if_pos h1]
 obtain ⟨x,h2,he⟩:=bnd_some he
 refine bnd_mk ?_ he
 obtain ⟨y,h3,h2⟩:=bnd_some h2
 refine bnd_mk (hg _ h3) ?_
 obtain ⟨y2,h4,h2⟩:=bnd_some h2
 refine bnd_mk (hr _ _ _ _ _ h4) ?_
 obtain ⟨v,h5,h2⟩:=bnd_some h2
 refine bnd_mk h5 ?_
 obtain ⟨z,h6,h2⟩:=bnd_some h2
 exact bnd_mk (hr _ _ _ _ _ h6) h2
theorem runPre_map {rn rn':Rn} (hr:∀ l m h nx x,rn l m h nx=some x→rn' l m h nx=some x):∀ (ps:List C) (m:Tm) (h:Heap) (nx:Nat) (x:Ex × Tm × Heap × Nat),runPre rn ps m h nx=some x→runPre rn' ps m h nx=some x:=by
 intro ps
 induction ps with
 |nil=>intro m h nx x hx;exact hx
 |cons p ps ih =>
  intro m h nx x hx
  simp only [runPre] at hx ⊢
  obtain ⟨⟨ex,y⟩,h1,h2⟩:=bnd_some hx
  refine bnd_mk (hr _ _ _ _ _ h1) ?_
  cases ex with
  |fin=>exact ih _ _ _ _ h2
  |ret=>exact h2
  |xt=>exact h2
  |pan=>exact h2
theorem runIt_map {ro ro':Ro} {rn rn':Rn} (ho:∀ i l m h nx x,ro i l m h nx=some x→ro' i l m h nx=some x) (hr:∀ l m h nx x,rn l m h nx=some x→rn' l m h nx=some x) {d:Mr} {e:FV × FV} {m:Tm} {h:Heap} {nx:Nat} {x:Tm × Heap × Nat} (hx:runIt ro rn d e m h nx=some x):runIt ro' rn' d e m h nx=some x:=by
 unfold runIt at hx ⊢
 obtain ⟨y,h1,h2⟩:=bnd_some hx
 obtain ⟨z,h3,h4⟩:=bnd_some h2
 exact bnd_mk (ho _ _ _ _ _ _ h1) (bnd_mk (hr _ _ _ _ _ h3) h4)
theorem same_map {α:Type} {l:List α} {F G:α→Option FV}:∀ {r:FV},(∀ x ∈ l,∀ r,F x=some r→G x=some r)→same (l.map F)=some r→same (l.map G)=some r:=by
 induction l with
 |nil=>intro r _ h;exact h
 |cons x l ih =>
  intro r hfg h
  cases l with
  |nil=>simp only [List.map_cons,List.map_nil,same] at h ⊢; exact hfg x (by simp) _ h
  |cons y l =>
   simp only [List.map_cons,same] at h ⊢
   obtain ⟨a,h1,h⟩:=bnd_some h
   obtain ⟨b,h2,h⟩:=bnd_some h
   refine bnd_mk (hfg x (by simp) _ h1) (bnd_mk (ih (fun z hz=>hfg z (by simp [hz])) h2) h)
theorem runAll_map {ro ro':Ro} {rn rn':Rn} (ho:∀ i l m h nx x,ro i l m h nx=some x→ro' i l m h nx=some x) (hr:∀ l m h nx x,rn l m h nx=some x→rn' l m h nx=some x) {d:Mr} {iid:Nat}:∀ (c:Nat) (l:List (FV × FV)) (m:Tm) (h:Heap) (nx:Nat) (r:FV),
  runAll ro rn d iid c l m h nx=some r→runAll ro' rn' d iid c l m h nx=some r:=by
 intro c
 induction c with
 |zero =>
  intro l m h nx r hx
  cases l with
  |nil =>
   simp only [runAll] at hx ⊢
   obtain ⟨h1,hx⟩:=chk_some hx
   obtain ⟨y,h2,hx⟩:=bnd_some hx
   rw [chk,if_pos h1]
   exact bnd_mk (hr _ _ _ _ _ h2) hx
  |cons=>simp [runAll] at hx
 |succ c ih =>
  intro l m h nx r hx
  cases l with
  |nil =>
   simp only [runAll] at hx ⊢
   obtain ⟨h1,hx⟩:=chk_some hx
   obtain ⟨y,h2,hx⟩:=bnd_some hx
   rw [chk,if_pos h1]
   exact bnd_mk (hr _ _ _ _ _ h2) hx
  |cons e es =>
   simp only [runAll] at hx ⊢
   obtain ⟨h1,hx⟩:=chk_some hx
   rw [chk,if_pos h1]
   refine same_map (fun p _ r h2=>?_) hx
   obtain ⟨y,h3,h4⟩:=bnd_some h2
   exact bnd_mk (runIt_map ho hr h3) (ih _ _ _ _ _ h4)
theorem mrV_map {ro ro':Ro} {rn rn':Rn} (ho:∀ i l m h nx x,ro i l m h nx=some x→ro' i l m h nx=some x) (hr:∀ l m h nx x,rn l m h nx=some x→rn' l m h nx=some x) {d:Mr} {args:List FV} {r:FV} (hx:mrV ro rn d args=some r):mrV ro' rn' d args=some r:=by
 unfold mrV at hx ⊢
 obtain ⟨h1,hx⟩:=chk_some hx
 rw [chk,if_pos h1]
 obtain ⟨⟨ex,m1,h1',nx1⟩,h2,hx⟩:=bnd_some hx
 refine bnd_mk (runPre_map hr _ _ _ _ _ h2) ?_
 cases ex with
 |ret=>exact hx
 |fin =>
  simp only at hx ⊢
  cases he:gt m1 d.mp with
  |map id =>
   rw [he] at hx
   simp only at hx ⊢
   cases hg:hget h1' id with
   |none=>rw [hg] at hx;cases hx
   |some o =>
    rw [hg] at hx
    cases o with
    |mp en=>exact runAll_map ho hr _ _ _ _ _ _ hx
    |_=>cases hx
  |_=>rw [he] at hx;cases hx
 |_=>cases hx
theorem enterM_map {ro ro':Ro} {rn rn':Rn} (ho:∀ i l m h nx x,ro i l m h nx=some x→ro' i l m h nx=some x) (hr:∀ l m h nx x,rn l m h nx=some x→rn' l m h nx=some x) {d:Mr} {args:List FV} {h:Heap} {nx:Nat} {r:FV × Heap × Nat} (hx:enterM ro rn d args h nx=some r):enterM ro' rn' d args h nx=some r:=by
 unfold enterM at hx ⊢
 obtain ⟨y,h2,hx⟩:=bnd_some hx
 exact bnd_mk (mrV_map ho hr h2) hx
theorem call_le (T:Tab):∀ n n',n ≤ n'→Le (call T n) (call T n'):=by
 intro n
 induction n with
 |zero=>intro n' _ f a h nx r hr;simp [call] at hr
 |succ n ih =>
  intro n' hn f a h nx r hr
  obtain ⟨k,rfl⟩:∃ k,n'=k + 1:=⟨n' - 1,by omega⟩
  simp only [call] at hr ⊢
  split at hr
  ·obtain ⟨h1,hr⟩:=chk_some hr
   rw [chk,if_pos h1]
   rw [enter_eq] at hr ⊢
   exact enterWith_map (fun m h nx x hx=>run_le (ih k (by omega)) n k (by omega) _ _ _ _ _ hx) hr
  ·obtain ⟨h1,hr⟩:=chk_some hr
   rw [chk,if_pos h1]
   rw [catch_eq] at hr ⊢
   exact catchWith_map (fun x hx=>rops_le (np_le (ih k (by omega))) _ _ _ _ _ _ hx) (fun l m h nx x hx=>run_le (ih k (by omega)) n k (by omega) _ _ _ _ _ hx) hr
  ·obtain ⟨h1,hr⟩:=chk_some hr
   rw [chk,if_pos h1]
   exact enterM_map (fun i l m h nx x hx=>rops_le (np_le (ih k (by omega))) _ _ _ _ _ _ hx) (fun l m h nx x hx=>run_le (ih k (by omega)) n k (by omega) _ _ _ _ _ hx) hr
  ·obtain ⟨h1,hr⟩:=chk_some hr
   rw [chk,if_pos h1]
   rw [round_eq] at hr ⊢
   exact roundWith_map (fun l m h nx x hx=>run_le (ih k (by omega)) n k (by omega) _ _ _ _ _ hx) hr
  ·exact hr
  ·simp at hr
open Classical in
noncomputable def sup {α:Type} (F:Nat→Option α):Option α:=if h:∃ n r,F n=some r then F h.choose else none
theorem sup_some {α:Type} {F:Nat→Option α} (hm:∀ n n' r,n ≤ n'→F n=some r→F n'=some r) (r:α):sup F=some r ↔ ∃ n,F n=some r:=by
 unfold sup
 constructor
 ·intro h
  split at h
  ·exact ⟨_,h⟩
  ·cases h
 ·rintro ⟨n,hn⟩
  have h:∃ n r,F n=some r:=⟨n,r,hn⟩
  rw [dif_pos h]
  obtain ⟨q,hq⟩:=h.choose_spec
  rw [hq]
  have h1:=hm _ (max n h.choose) r (by omega) hn
  have h2:=hm _ (max n h.choose) q (by omega) hq
  rw [h1] at h2;cases h2;rfl
noncomputable def lim (T:Tab):Call:=fun f a h nx=>sup fun n=>call T n f a h nx
noncomputable def runs (T:Tab) (l:List I) (m:Tm) (h:Heap) (nx:Nat):Option (Ex × Tm × Heap × Nat):=sup fun n=>run (lim T) n l m h nx
theorem lim_some {T:Tab} {f:Nat} {a:List FV} {h:Heap} {nx:Nat} {r:FV × Heap × Nat}:lim T f a h nx=some r ↔ ∃ n,call T n f a h nx=some r :=
 sup_some (fun n n' r hn hr=>call_le T n n' hn _ _ _ _ _ hr) r
theorem le_lim (T:Tab) (n:Nat):Le (call T n) (lim T):=fun _ _ _ _ _ hr=>lim_some.2 ⟨n,hr⟩
theorem runs_some {T:Tab} {l:List I} {m:Tm} {h:Heap} {nx:Nat} {r:Ex × Tm × Heap × Nat}:runs T l m h nx=some r ↔ ∃ n,run (lim T) n l m h nx=some r :=
 sup_some (fun n n' r hn hr=>run_le (fun _ _ _ _ _ h=>h) n n' hn _ _ _ _ _ hr) r
theorem np_cont {T:Tab} {f:Nat} {a:List FV} {h:Heap} {nx:Nat} {r:FV × Heap × Nat} (hr:np (lim T) f a h nx=some r):∃ k,np (call T k) f a h nx=some r:=by
 unfold np at hr
 obtain ⟨x,h1,h2⟩:=bnd_some hr
 obtain ⟨k,hk⟩:=lim_some.1 h1
 exact ⟨k,by unfold np;exact bnd_mk hk h2⟩
theorem opg_cont {T:Tab} {id:Nat} {g:G} {m:Tm} {h:Heap} {nx:Nat} {r:FV × Heap × Nat} (hr:opg (np (lim T)) id g m h nx=some r):∃ k,opg (np (call T k)) id g m h nx=some r:=by
 obtain ⟨d,gd,o,re⟩:=g
 cases o
 case cl f xs=>exact np_cont hr
 case cw f xs =>
  simp only [opg] at hr ⊢
  split at hr
  ·exact np_cont hr
  ·exact np_cont hr
  ·simp at hr
 all_goals exact ⟨0,hr⟩
theorem rops_cont {T:Tab}:∀ (gs:List G) (id:Nat) (m:Tm) (h:Heap) (nx:Nat) (r:Tm × Heap × Nat),rops (np (lim T)) id gs m h nx=some r→∃ k,rops (np (call T k)) id gs m h nx=some r:=by
 intro gs
 induction gs with
 |nil=>intro id m h nx r hr;exact ⟨0,hr⟩
 |cons g gs ih =>
  intro id m h nx r hr
  simp only [rops] at hr
  obtain ⟨b,h1,h2⟩:=bnd_some hr
  split at h2
  ·rename_i hb
   obtain ⟨x,h3,h4⟩:=bnd_some h2
   obtain ⟨k1,hk1⟩:=opg_cont h3
   obtain ⟨h5,_⟩:=rechk_some h4
   obtain ⟨k2,hk2⟩:=ih _ _ _ _ _ h5
   refine ⟨max k1 k2,?_⟩
   simp only [rops]
   refine bnd_mk h1 ?_
   rw [if_pos hb]
   refine bnd_mk (opg_le (np_le (call_le T k1 _ (by omega))) hk1) (rechk_map (fun q hq=>?_) _ _ h4)
   rw [h5] at hq;cases hq
   exact rops_le (np_le (call_le T k2 _ (by omega))) _ _ _ _ _ _ hk2
  ·rename_i hb
   obtain ⟨k,hk⟩:=ih _ _ _ _ _ h2
   refine ⟨k,?_⟩
   simp only [rops]
   refine bnd_mk h1 ?_
   rw [if_neg hb]
   exact hk
theorem ropsP_o {cal:Call} {id:Nat} {gg:G} {gs:List G} {m:Tm} {h:Heap} {nx:Nat} (h1:∀ x,gg.op ≠ .pn x) (h2:∀ f as,gg.op ≠ .cl f as) :
  ropsP cal id (gg::gs) m h nx=bnd (wanted m gg.guard) fun b=>if b=true then bnd (opg (np cal) id ⟨gg.dst,gg.guard,gg.op,[]⟩ m h nx) fun x=>ropsP cal (id + 1) gs (put m gg.dst x.1) x.2.1 x.2.2 else ropsP cal (id + 1) gs (put m gg.dst (.tup [])) h nx:=by
 obtain ⟨d,gd,o,re⟩:=gg
 cases o<;>first | rfl | exact absurd rfl (h1 _) | exact absurd rfl (h2 _ _)
theorem ropsP_cont {T:Tab}:∀ (gs:List G) (id:Nat) (m:Tm) (h:Heap) (nx:Nat) (r:Option FV × Tm × Heap × Nat),ropsP (lim T) id gs m h nx=some r→∃ k,ropsP (call T k) id gs m h nx=some r:=by
 intro gs
 induction gs with
 |nil=>intro id m h nx r hr;exact ⟨0,hr⟩
 |cons g gs ih =>
  intro id m h nx r hr
  simp only [ropsP] at hr
  obtain ⟨b,h1,h2⟩:=bnd_some hr
  split at h2
  ·rename_i hb
   split at h2
   ·rename_i x hg
    exact ⟨0,by simp only [ropsP];refine bnd_mk h1 ?_;rw [if_pos hb];simp only [hg];exact h2⟩
   ·rename_i f as hg
    obtain ⟨y,h3,h4⟩:=bnd_some h2
    obtain ⟨k1,hk1⟩:=lim_some.1 h3
    split at h4
    ·rename_i v hv
     exact ⟨k1,by simp only [ropsP];refine bnd_mk h1 ?_;rw [if_pos hb];simp only [hg];refine bnd_mk hk1 ?_;simp only [hv];exact h4⟩
    ·rename_i hv
     obtain ⟨k2,hk2⟩:=ih _ _ _ _ _ h4
     refine ⟨max k1 k2,?_⟩
     simp only [ropsP]
     refine bnd_mk h1 ?_
     rw [if_pos hb]
     simp only [hg]
     refine bnd_mk (call_le T k1 _ (by omega) _ _ _ _ _ hk1) ?_
     split
     ·rename_i v hv2;exact absurd hv2 (hv v)
     ·exact ropsP_le (call_le T k2 _ (by omega)) _ _ _ _ _ _ hk2
   ·rename_i hg1 hg2
    obtain ⟨y,h3,h4⟩:=bnd_some h2
    obtain ⟨k1,hk1⟩:=opg_cont h3
    obtain ⟨k2,hk2⟩:=ih _ _ _ _ _ h4
    refine ⟨max k1 k2,?_⟩
    rw [ropsP_o hg1 hg2]
    refine bnd_mk h1 ?_
    rw [if_pos hb]
    exact bnd_mk (opg_le (np_le (call_le T k1 _ (by omega))) hk1) (ropsP_le (call_le T k2 _ (by omega)) _ _ _ _ _ _ hk2)
  ·rename_i hb
   obtain ⟨k,hk⟩:=ih _ _ _ _ _ h2
   refine ⟨k,?_⟩
   simp only [ropsP]
   refine bnd_mk h1 ?_
   rw [if_neg hb]
   exact hk
theorem ropsD_cont {T:Tab} {id c:Nat} {gs:List G} {m:Tm} {h:Heap} {nx:Nat} {r:Option FV × Tm × Heap × Nat} (hr:ropsD (lim T) id c gs m h nx=some r):∃ k,ropsD (call T k) id c gs m h nx=some r:=by
 unfold ropsD at hr
 obtain ⟨x,h1,hr⟩:=bnd_some hr
 obtain ⟨k1,hk1⟩:=rops_cont _ _ _ _ _ _ h1
 split at hr
 ·rename_i f as hg
  obtain ⟨y,h2,hr⟩:=bnd_some hr
  obtain ⟨k2,hk2⟩:=lim_some.1 h2
  split at hr
  ·rename_i v hv
   refine ⟨max k1 k2,?_⟩
   unfold ropsD
   refine bnd_mk (rops_le (np_le (call_le T k1 _ (by omega))) _ _ _ _ _ _ hk1) ?_
   simp only [hg]
   refine bnd_mk (call_le T k2 _ (by omega) _ _ _ _ _ hk2) ?_
   simp only [hv]
   exact hr
  ·rename_i hv
   obtain ⟨z,h3,hr⟩:=bnd_some hr
   obtain ⟨h5,_⟩:=rechk_some h3
   obtain ⟨k3,hk3⟩:=rops_cont _ _ _ _ _ _ h5
   refine ⟨max k1 (max k2 k3),?_⟩
   unfold ropsD
   refine bnd_mk (rops_le (np_le (call_le T k1 _ (by omega))) _ _ _ _ _ _ hk1) ?_
   simp only [hg]
   refine bnd_mk (call_le T k2 _ (by omega) _ _ _ _ _ hk2) ?_
   split
   ·rename_i v hv2;exact absurd hv2 (hv v)
   ·refine bnd_mk (rechk_map (fun q hq=>?_) _ _ h3) hr
    rw [h5] at hq;cases hq
    exact rops_le (np_le (call_le T k3 _ (by omega))) _ _ _ _ _ _ hk3
 ·simp at hr
theorem run_cont {T:Tab}:∀ (n:Nat) (l:List I) (m:Tm) (h:Heap) (nx:Nat) (r:Ex × Tm × Heap × Nat),run (lim T) n l m h nx=some r→∃ k,n ≤ k∧run (call T k) k l m h nx=some r:=by
 intro n
 induction n with
 |zero=>intro l m h nx r hr;simp [run] at hr
 |succ n ih =>
  intro l m h nx r hr
  have up:∀ {l m h nx},run (lim T) n l m h nx=some r→∃ k,n + 1 ≤ k + 1∧run (call T (k + 1)) k l m h nx=some r:=fun hr=>by
   obtain ⟨k,h1,h2⟩:=ih _ _ _ _ _ hr
   exact ⟨k,by omega,run_le (call_le T k _ (by omega)) k k (Nat.le_refl _) _ _ _ _ _ h2⟩
  cases l with
  |nil=>exact ⟨n + 1,Nat.le_refl _,by simpa only [run] using hr⟩
  |cons i l =>
   cases i with
   |inB id=>simp only [run] at hr;obtain ⟨k,h1,h2⟩:=up hr;exact ⟨k + 1,h1,by simpa only [run] using h2⟩
   |inS c=>simp only [run] at hr;obtain ⟨k,h1,h2⟩:=up hr;exact ⟨k + 1,h1,by simpa only [run] using h2⟩
   |beg id =>
    simp only [run] at hr
    split at hr
    ·rename_i hg;obtain ⟨k,h1,h2⟩:=up hr;exact ⟨k + 1,h1,by simp only [run,hg];exact h2⟩
    ·simp at hr
   |inL t c =>
    cases t with
    |none=>simp only [run] at hr;obtain ⟨k,h1,h2⟩:=up hr;exact ⟨k + 1,h1,by simpa only [run] using h2⟩
    |some b =>
     simp only [run] at hr
     obtain ⟨h0,hr⟩:=chk_some hr
     obtain ⟨k,h1,h2⟩:=up hr
     refine ⟨k + 1,h1,?_⟩
     simp only [run]
     rw [chk,if_pos h0];exact h2
   |code c =>
    cases c with
    |bad=>simp only [run] at hr;cases hr
    |sk=>simp only [run] at hr;obtain ⟨k,h1,h2⟩:=up hr;exact ⟨k + 1,h1,by simpa only [run] using h2⟩
    |lb t=>simp only [run] at hr;obtain ⟨k,h1,h2⟩:=up hr;exact ⟨k + 1,h1,by simpa only [run] using h2⟩
    |sc c=>simp only [run] at hr;obtain ⟨k,h1,h2⟩:=up hr;exact ⟨k + 1,h1,by simpa only [run] using h2⟩
    |go t =>
     simp only [run] at hr
     split at hr
     ·rename_i hx;obtain ⟨k,h1,h2⟩:=up hr;exact ⟨k + 1,h1,by simp only [run,hx];exact h2⟩
     ·simp at hr
    |rf f x ct =>
     simp only [run] at hr
     split at hr
     ·rename_i hx
      obtain ⟨y,h3,hr⟩:=bnd_some hr
      obtain ⟨k1,hk1⟩:=np_cont h3
      split at hr
      ·rename_i hg
       obtain ⟨h4,hr⟩:=chk_some hr
       have fin:∀ {l':List I} {m' h' nx'},run (lim T) n l' m' h' nx'=some r→∃ k2,n ≤ k2∧k1 ≤ k2∧run (call T (k2 + 1)) k2 l' m' h' nx'=some r:=fun hr=>by
        obtain ⟨k2,h1,h2⟩:=ih _ _ _ _ _ hr
        exact ⟨max k1 k2,by omega,by omega,run_le (call_le T k2 _ (by omega)) k2 _ (by omega) _ _ _ _ _ h2⟩
       split at hr
       ·obtain ⟨k2,h1,h5,h2⟩:=fin hr
        exact ⟨k2 + 1,by omega,by simp only [run,hx];refine bnd_mk (np_le (call_le T k1 _ (by omega)) _ _ _ _ _ hk1) ?_;simp only [hg,chk,if_pos h4];exact h2⟩
       ·obtain ⟨k2,h1,h5,h2⟩:=fin hr
        exact ⟨k2 + 1,by omega,by simp only [run,hx];refine bnd_mk (np_le (call_le T k1 _ (by omega)) _ _ _ _ _ hk1) ?_;simp only [hg,chk,if_pos h4];exact h2⟩
       ·obtain ⟨k2,h1,h5,h2⟩:=fin hr
        exact ⟨k2 + 1,by omega,by simp only [run,hx];refine bnd_mk (np_le (call_le T k1 _ (by omega)) _ _ _ _ _ hk1) ?_;simp only [hg,chk,if_pos h4];exact h2⟩
      ·simp at hr
     ·simp at hr
    |rg d gs keep =>
     simp only [run] at hr
     obtain ⟨x,h3,hr⟩:=bnd_some hr
     obtain ⟨k1,hk1⟩:=rops_cont _ _ _ _ _ _ h3
     obtain ⟨k2,h1,h2⟩:=ih _ _ _ _ _ hr
     refine ⟨max k1 k2 + 1,by omega,?_⟩
     simp only [run]
     exact bnd_mk (rops_le (np_le (call_le T k1 _ (by omega))) _ _ _ _ _ _ hk1) (run_le (call_le T k2 _ (by omega)) k2 _ (by omega) _ _ _ _ _ h2)
    |rp pm c0 kp gs keep =>
     simp only [run] at hr
     obtain ⟨⟨p,x⟩,h3,hr⟩:=bnd_some hr
     obtain ⟨k1,hk1⟩:=ropsD_cont h3
     cases p with
     |none =>
      obtain ⟨k2,h1,h2⟩:=ih _ _ _ _ _ hr
      refine ⟨max k1 k2 + 1,by omega,?_⟩
      simp only [run]
      exact bnd_mk (ropsD_le (call_le T k1 _ (by omega)) hk1) (run_le (call_le T k2 _ (by omega)) k2 _ (by omega) _ _ _ _ _ h2)
     |some v =>
      refine ⟨max k1 n + 1,by omega,?_⟩
      simp only [run]
      exact bnd_mk (ropsD_le (call_le T k1 _ (by omega)) hk1) hr
    |rq gs keep =>
     simp only [run] at hr
     obtain ⟨⟨p,x⟩,h3,hr⟩:=bnd_some hr
     obtain ⟨k1,hk1⟩:=ropsP_cont _ _ _ _ _ _ h3
     cases p with
     |none =>
      obtain ⟨k2,h1,h2⟩:=ih _ _ _ _ _ hr
      refine ⟨max k1 k2 + 1,by omega,?_⟩
      simp only [run]
      exact bnd_mk (ropsP_le (call_le T k1 _ (by omega)) _ _ _ _ _ _ hk1) (run_le (call_le T k2 _ (by omega)) k2 _ (by omega) _ _ _ _ _ h2)
     |some v =>
      refine ⟨max k1 n + 1,by omega,?_⟩
      simp only [run]
      exact bnd_mk (ropsP_le (call_le T k1 _ (by omega)) _ _ _ _ _ _ hk1) hr
    |sq a b=>simp only [run] at hr;obtain ⟨k,h1,h2⟩:=up hr;exact ⟨k + 1,h1,by simpa only [run] using h2⟩
    |cd x a b =>
     simp only [run] at hr
     split at hr
     ·rename_i b' hx
      split at hr
      ·rename_i hb;obtain ⟨k,h1,h2⟩:=up hr;exact ⟨k + 1,h1,by simp only [run,hx];rw [if_pos hb];exact h2⟩
      ·rename_i hb;obtain ⟨k,h1,h2⟩:=up hr;exact ⟨k + 1,h1,by simp only [run,hx];rw [if_neg hb];exact h2⟩
     ·simp at hr
    |bl id c=>simp only [run] at hr;obtain ⟨k,h1,h2⟩:=up hr;exact ⟨k + 1,h1,by simpa only [run] using h2⟩
    |lp t c=>simp only [run] at hr;obtain ⟨k,h1,h2⟩:=up hr;exact ⟨k + 1,h1,by simpa only [run] using h2⟩
    |xt id =>
     simp only [run] at hr
     split at hr
     ·rename_i hx;obtain ⟨k,h1,h2⟩:=up hr;exact ⟨k + 1,h1,by simp only [run,hx];exact h2⟩
     ·rename_i hx;exact ⟨n + 1,Nat.le_refl _,by simp only [run,hx];exact hr⟩
    |rt=>exact ⟨n + 1,Nat.le_refl _,by simpa only [run] using hr⟩
theorem lim_fn {T:Tab} {f:Nat} {d:Fn} (ht:tget T f=some (.fn d)) (hlt:f < RB) (args:List FV) (h:Heap) (nx:Nat):lim T f args h nx=enterWith (runs T) d args h nx:=by
 apply Option.ext
 intro r
 rw [lim_some]
 constructor
 ·rintro ⟨n,hn⟩
  cases n with
  |zero=>simp [call] at hn
  |succ n =>
   simp only [call,ht] at hn
   obtain ⟨_,hn⟩:=chk_some hn
   rw [enter_eq] at hn
   exact enterWith_map (fun m h nx x hx=>runs_some.2 ⟨n,run_le (le_lim T n) n n (Nat.le_refl _) _ _ _ _ _ hx⟩) hn
 ·intro hr
  have key:∃ k,enterWith (fun l m h nx=>run (call T k) k l m h nx) d args h nx=some r:=by
   unfold enterWith at hr ⊢
   obtain ⟨h1,hr⟩:=chk_some hr
   simp only [chk,if_pos h1]
   cases hm:d.mode with
   |iso =>
    rw [hm] at hr
    simp only at hr ⊢
    obtain ⟨h2,hr⟩:=chk_some hr
    obtain ⟨x,h3,hr⟩:=bnd_some hr
    obtain ⟨n,h4⟩:=runs_some.1 h3
    obtain ⟨k,_,h5⟩:=run_cont n _ _ _ _ _ h4
    exact ⟨k,by rw [if_pos h2];exact bnd_mk h5 hr⟩
   |isf =>
    rw [hm] at hr
    simp only at hr ⊢
    obtain ⟨as,h2,hr⟩:=bnd_some hr
    obtain ⟨x,h3,hr⟩:=bnd_some hr
    obtain ⟨n,h4⟩:=runs_some.1 h3
    obtain ⟨k,_,h5⟩:=run_cont n _ _ _ _ _ h4
    exact ⟨k,bnd_mk h2 (bnd_mk h5 hr)⟩
   |isc =>
    rw [hm] at hr
    simp only at hr ⊢
    obtain ⟨as,h2,hr⟩:=bnd_some hr
    obtain ⟨x,h3,hr⟩:=bnd_some hr
    obtain ⟨n,h4⟩:=runs_some.1 h3
    obtain ⟨k,_,h5⟩:=run_cont n _ _ _ _ _ h4
    exact ⟨k,bnd_mk h2 (bnd_mk h5 hr)⟩
   |shr =>
    rw [hm] at hr
    simp only at hr ⊢
    obtain ⟨x,h3,hr⟩:=bnd_some hr
    obtain ⟨n,h4⟩:=runs_some.1 h3
    obtain ⟨k,_,h5⟩:=run_cont n _ _ _ _ _ h4
    exact ⟨k,bnd_mk h5 hr⟩
  obtain ⟨k,hk⟩:=key
  refine ⟨k + 1,?_⟩
  simp only [call,ht]
  rw [chk,if_pos hlt,enter_eq]
  exact hk
theorem lim_rd {T:Tab} {f:Nat} {d:Rd} (ht:tget T f=some (.rd d)) (hge:RB ≤ f) (args:List FV) (h:Heap) (nx:Nat):lim T f args h nx=roundWith (runs T) d args h nx:=by
 apply Option.ext
 intro r
 rw [lim_some]
 constructor
 ·rintro ⟨n,hn⟩
  cases n with
  |zero=>simp [call] at hn
  |succ n =>
   simp only [call,ht] at hn
   obtain ⟨_,hn⟩:=chk_some hn
   rw [round_eq] at hn
   exact roundWith_map (fun l m h nx x hx=>runs_some.2 ⟨n,run_le (le_lim T n) n n (Nat.le_refl _) _ _ _ _ _ hx⟩) hn
 ·intro hr
  unfold roundWith at hr
  split at hr
  ·obtain ⟨h1,hr⟩:=chk_some hr
   obtain ⟨x,h3,h5⟩:=bnd_some hr
   obtain ⟨n,h4⟩:=runs_some.1 h3
   obtain ⟨k,_,h6⟩:=run_cont n _ _ _ _ _ h4
   refine ⟨k + 1,?_⟩
   simp only [call,ht]
   rw [chk,if_pos hge,round_eq]
   unfold roundWith
   simp only
   rw [chk,if_pos h1]
   exact bnd_mk h6 h5
  ·simp at hr
section
variable {T:Tab} {k:List I} {m:Tm} {h:Heap} {nx:Nat}
theorem runs_step {l l':List I} {m':Tm} {h':Heap} {nx':Nat} (hs:∀ n,run (lim T) (n + 1) l m h nx=run (lim T) n l' m' h' nx'):runs T l m h nx=runs T l' m' h' nx':=by
 apply Option.ext
 intro r
 rw [runs_some,runs_some]
 constructor
 ·rintro ⟨n,hn⟩
  cases n with
  |zero=>simp [run] at hn
  |succ n=>rw [hs] at hn;exact ⟨n,hn⟩
 ·rintro ⟨n,hn⟩
  exact ⟨n + 1,by rw [hs];exact hn⟩
theorem runs_end {l:List I} {r:Ex × Tm × Heap × Nat} (hs:∀ n,run (lim T) (n + 1) l m h nx=some r):runs T l m h nx=some r:=runs_some.2 ⟨1,hs 0⟩
theorem runs_nil:runs T [] m h nx=some (.fin,m,h,nx):=runs_end fun n=>by simp only [run]
theorem runs_rt:runs T (.code .rt::k) m h nx=some (.ret,m,h,nx):=runs_end fun n=>by simp only [run]
theorem runs_sk:runs T (.code .sk::k) m h nx=runs T k m h nx:=runs_step fun n=>by simp only [run]
theorem runs_inB {id:Nat}:runs T (.inB id::k) m h nx=runs T k m h nx:=runs_step fun n=>by simp only [run]
theorem runs_none {l:List I} (hs:∀ n,run (lim T) (n + 1) l m h nx=none):runs T l m h nx=none:=by
 apply Option.ext
 intro r
 rw [runs_some]
 constructor
 ·rintro ⟨n,hn⟩
  cases n with
  |zero=>simp [run] at hn
  |succ n=>rw [hs] at hn;cases hn
 ·intro hh;cases hh
theorem runs_beg {id:Nat}:runs T (.beg id::k) m h nx=(match hget h id with | some (.lp 0 jp)=>runs T k m (hset h id (.lp 1 jp)) nx | _=>none):=by
 split
 ·rename_i jp hx;exact runs_step fun n=>by simp only [run,hx]
 ·rename_i hx
  refine runs_none fun n=>?_
  simp only [run]
def jpI (jp:Nat) (k:List I):List I :=
 match jp with
 |0=>k
 |1=>.code .rt::k
 |e + 2=>.code (.xt e)::k
noncomputable def rfK (T:Tab) (k:List I) (m:Tm) (nx:Nat) (r:FV × Heap × Nat):Option (Ex × Tm × Heap × Nat) :=
 match hget r.2.1 nx with
 |some (.lp st jp)=>chk (st ≠ 1) (runs T (jpI jp k) m (hset r.2.1 nx (.lp 3 jp)) r.2.2)
 |_=>none
theorem runs_rf {f:Nat} {x:X} {ct:List Nat} {q:Nat} {caps:List FV} (hx:ev m x=.fn q caps) :
  runs T (.code (.rf f x ct)::k) m h nx=bnd (np (lim T) q (.yl f nx (evs m (ct.map .t))::caps) ((nx,.lp 0 0)::h) (nx + 1)) (rfK T k m nx):=by
 cases hl:np (lim T) q (.yl f nx (evs m (ct.map .t))::caps) ((nx,.lp 0 0)::h) (nx + 1) with
 |none=>exact runs_none fun n=>by simp only [run,hx,hl,bnd]
 |some r =>
  simp only [bnd,rfK]
  split
  ·rename_i st jp hg
   unfold chk
   split
   ·rename_i hc
    refine runs_step fun n=>?_
    simp only [run,hx,hl,bnd,hg,chk,if_pos hc]
    match jp with
    |0=>rfl
    |1=>rfl
    |e + 2=>rfl
   ·rename_i hc
    exact runs_none fun n=>by simp only [run,hx,hl,bnd,hg,chk,if_neg hc]
  ·rename_i hg
   refine runs_none fun n=>?_
   simp only [run,hx,hl,bnd]
theorem runs_sq {a b:C}:runs T (.code (.sq a b)::k) m h nx=runs T (.code a::.code b::k) m h nx:=runs_step fun n=>by simp only [run]
theorem runs_bl {id:Nat} {c:C}:runs T (.code (.bl id c)::k) m h nx=runs T (.code c::.inB id::k) m h nx:=runs_step fun n=>by simp only [run]
theorem runs_lp {t:Bool} {c:C}:runs T (.code (.lp t c)::k) m h nx=runs T (.code c::.inL (if t=true then some nx else none) c::k) m h nx:=runs_step fun n=>by simp only [run]
theorem runs_inL0 {c:C}:runs T (.inL none c::k) m h nx=runs T (.code c::.inL none c::k) m h nx:=runs_step fun n=>by simp only [run]
theorem runs_inL {b:Nat} {c:C}:runs T (.inL (some b) c::k) m h nx=chk (b ≤ nx∧lowTm b m=true∧lowHeap b (cutH b h)=true) (runs T (.code c::.inL (some b) c::k) m (cutH b h) b):=by
 unfold chk
 split
 ·rename_i hc
  exact runs_step fun n=>by simp only [run,chk,if_pos hc]
 ·rename_i hc
  apply Option.ext
  intro r
  rw [runs_some]
  constructor
  ·rintro ⟨n,hn⟩
   cases n with
   |zero=>simp [run] at hn
   |succ n=>simp only [run,chk,if_neg hc] at hn;cases hn
  ·intro hh;cases hh
theorem runs_cd {x:X} {a b:C}:runs T (.code (.cd x a b)::k) m h nx=(match ev m x with | .bool t=>if t=true then runs T (.code a::k) m h nx else runs T (.code b::k) m h nx | _=>none):=by
 split
 ·rename_i t hx
  split
  ·rename_i ht;exact runs_step fun n=>by simp only [run,hx];rw [if_pos ht]
  ·rename_i ht;exact runs_step fun n=>by simp only [run,hx];rw [if_neg ht]
 ·rename_i hx
  apply Option.ext
  intro r
  rw [runs_some]
  constructor
  ·rintro ⟨n,hn⟩
   cases n with
   |zero=>simp [run] at hn
   |succ n =>
    simp only [run] at hn
    cases hn
  ·intro hh;cases hh
theorem runs_xt {id:Nat}:runs T (.code (.xt id)::k) m h nx=(match exitTo id k with | some k'=>runs T k' m h nx | none=>some (.xt id,m,h,nx)):=by
 split
 ·rename_i k' hx;exact runs_step fun n=>by simp only [run,hx]
 ·rename_i hx;exact runs_end fun n=>by simp only [run,hx]
theorem runs_rg {d:Option (List Nat)} {gs:List G} {keep:List Nat}:runs T (.code (.rg d gs keep)::k) m h nx=bnd (rops (np (lim T)) nx gs m h (nx + gs.length)) fun x=>runs T k (keepOf x.1 keep) x.2.1 x.2.2:=by
 cases hr:rops (np (lim T)) nx gs m h (nx + gs.length) with
 |none =>
  apply Option.ext
  intro r
  rw [runs_some]
  constructor
  ·rintro ⟨n,hn⟩
   cases n with
   |zero=>simp [run] at hn
   |succ n=>simp only [run,hr,bnd] at hn;cases hn
  ·intro hh;cases hh
 |some x=>exact runs_step fun n=>by simp only [run,hr,bnd]
end
theorem frz_pure {h:Heap} {n:Nat} {v:FV} (hp:pure_ v=true):frz h n v=some v:=by
 cases n<;>simp [frz,hp]
theorem isoCall_of_lim [Sys] {P:Program} {T:Tab} (hT:TabOk P T) {f:Nat} {d:Fn} (ht:tget T f=some (.fn d)) (hm:d.mode=.iso) {args:List FV} {v:FV} {h h':Heap} {nx nx':Nat} (hl:lim T f args h nx=some (v,h',nx')) (hp:isPan v=false):IsoCall P f args v:=by
 obtain ⟨n,hn⟩:=lim_some.1 hl
 cases n with
 |zero=>simp [call] at hn
 |succ n =>
  simp only [call,ht] at hn
  obtain ⟨_,hn⟩:=chk_some hn
  exact (enter_iso (fun f r ct=>(hT.rk f r ct).2) (calOk_call hT n) (stable_call T n).np hT.mix (hT.fn f d ht) hm hn).2.2.2.2.ret hp
end Go.FI
