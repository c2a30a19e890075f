/- Parts of the proof, one behind the other. -/
import Derived.Test.YtjmppkmacaeahaaGreatDoorSL9
import Derived.Test.YtjmppkmacaeahaaGreatDoorSL7
import Derived.Test.YtjmppkmacaeahaaGreatDoorKB
set_option linter.all false
namespace Go.Proofs.YtjmppkmacaeahaaGreatDoor.Fi
open Go.FI
theorem d_LL {P:Prop} (h:P:=by first|omega|(simp only[EVL]<;>omega)|(simp only[hget_c,Nat.reduceEqDiff,↓reduceIte];done)|assumption|(simp (disch:=omega) only[hg_ne,hg_eq,hgs_ne, *];done)|(simp only [LAWSb];done)|with_unfolding_all rfl):P:=h
theorem con3_spec (w x:Int):∀ h nx,lim T 21 [.int .i64 w,.int .u64 x] h nx=some (.agg [.int .u8 (conT w x).k,.int .i64 (conT w x).w,.int .u64 (conT w x).b,.str (conT w x).s,.int .i64 (conT w x).lo,.lst (conT w x).e ((conT w x).l.map tV)],h,nx):=by
 refine lim_iso tg21 rfl rfl rfl ?_
 simp (disch:=first | exact d_LL | fail) only [c21,EVS,Nat.reduceAdd,Nat.reduceSub,Int.reduceToNat,Nat.reduceMul,Nat.reduceEqDiff,Nat.reduceLeDiff,Int.reduceEq,Int.reduceLT,Int.reduceLE,↓reduceIte]
 rfl
theorem frz_op {h:Heap} {id:Nat} {l:List Te} {k w:Int} (hg:hget h id=some (.row 6 (l.map tV))) (hl:l.length ≤ 1000000) :
  frzs h deep [.int .u8 k,.int .i64 w,.sref 6 id l.length 0 l.length]=some [.int .u8 k,.int .i64 w,.lst false (l.map tV)]:=by
 have he:elems h (.sref 6 id l.length 0 l.length)=some (l.map tV):=by
  have:=elems_own (.inl hg)
  simpa using this
 have key:∀ m,2000000 ≤ m→frzs h (m + 4) [.int .u8 k,.int .i64 w,.sref 6 id l.length 0 l.length]=some [.int .u8 k,.int .i64 w,.lst false (l.map tV)]:=by
  intro m hm
  refine frzs_c' frz_int ?_
  rw [show m + 3=(m + 2) + 1 from rfl]
  refine frzs_c' frz_int ?_
  rw [show m + 2=(m + 1) + 1 from rfl]
  refine frzs_c' ?_ (by cases m<;>rfl)
  rw [fz_ref (by decide),he,B_some,frzs_pure (pu_Ts l) (by simp;omega),B_some]
 exact key (deep - 4) (by decide)
theorem idL_op {h:Heap} {id:Nat} {l:List Te} {k w:Int} (hg:hget h id=some (.row 6 (l.map tV))):idL h deep [.int .u8 k,.int .i64 w,.sref 6 id l.length 0 l.length]=[id]:=by
 have he:elems h (.sref 6 id l.length 0 l.length)=some (l.map tV):=by
  have:=elems_own (.inl hg)
  simpa using this
 have key:∀ m,idL h (m + 4) [.int .u8 k,.int .i64 w,.sref 6 id l.length 0 l.length]=[id]:=by
  intro m
  have e2:∀ (q:Nat) (v:FV) (r:List FV),idL h (q + 1) (v::r)=idV h q v ++ idL h q r:=fun q v r=>by rw [idL]
  have e1:idV h (m + 1) (.sref 6 id l.length 0 l.length)=[id]:=by
   unfold idV
   rw [if_neg (by simp [pure_])]
   show id::(match elems h (.sref 6 id l.length 0 l.length) with | some xs=>idL h m xs | none=>[])=[id]
   rw [he]
   simp only
   rw [idL_pure (pu_Ts l)]
  rw [e2,e2,e2,e1,idV_pure rfl,idV_pure rfl,idL_pure rfl];rfl
 exact key (deep - 4)
theorem op_runs (k w:Int) (l:List Te) (hl:l.length ≤ 10):RunsTo 16 [.int .u8 k,.int .i64 w,.lst false (l.map tV)] (.agg [.int .u8 k,.int .i64 w,.int .u64 0,.str [],.int .i64 0,.lst false (l.map tV)]):=by
 refine runsTo tg16 rfl rfl ?_
 simp (disch:=first | exact d_LL | fail) only [c16,LAWSb,EVS,Nat.reduceAdd,Nat.reduceSub,Int.reduceToNat,Nat.reduceMul,Nat.reduceEqDiff,Nat.reduceLeDiff,Int.reduceEq,Int.reduceLT,Int.reduceLE,↓reduceIte]
theorem op_call (l:List Te) (n:Nat) (hn:l.length=n) (hl:n ≤ 10) (k w:Int) (H:Heap) (id nx:Nat) (hg:hget H id=some (.row 6 (l.map tV))) :
  lim T 16 [.int .u8 k,.int .i64 w,.sref 6 id n 0 n] H nx=some (.agg [.int .u8 k,.int .i64 w,.int .u64 0,.str [],.int .i64 0,.lst false (l.map tV)],hset H id (.fro 6 (l.map tV)),nx):=by
 subst hn
 have:=op_runs k w l hl _ H nx (frz_op hg (by omega)) rfl
 rw [idL_op hg,froze_row hg] at this
 exact this
theorem op2_call (a b:Te) (k w:Int) (H:Heap) (id nx:Nat) (hg:hget H id=some (.row 6 [.agg [.int .u8 (a).k,.int .i64 (a).w,.int .u64 (a).b,.str (a).s,.int .i64 (a).lo,.lst (a).e ((a).l.map tV)],.agg [.int .u8 (b).k,.int .i64 (b).w,.int .u64 (b).b,.str (b).s,.int .i64 (b).lo,.lst (b).e ((b).l.map tV)]])) :
  lim T 16 [.int .u8 k,.int .i64 w,.sref 6 id 2 0 2] H nx=some (.agg [.int .u8 k,.int .i64 w,.int .u64 0,.str [],.int .i64 0,.lst false [.agg [.int .u8 (a).k,.int .i64 (a).w,.int .u64 (a).b,.str (a).s,.int .i64 (a).lo,.lst (a).e ((a).l.map tV)],.agg [.int .u8 (b).k,.int .i64 (b).w,.int .u64 (b).b,.str (b).s,.int .i64 (b).lo,.lst (b).e ((b).l.map tV)]]],hset H id (.fro 6 [.agg [.int .u8 (a).k,.int .i64 (a).w,.int .u64 (a).b,.str (a).s,.int .i64 (a).lo,.lst (a).e ((a).l.map tV)],.agg [.int .u8 (b).k,.int .i64 (b).w,.int .u64 (b).b,.str (b).s,.int .i64 (b).lo,.lst (b).e ((b).l.map tV)]]),nx):=by
 have:=op_call [a,b] 2 rfl (by decide) k w H id nx (by simp only [List.map_cons,List.map_nil,tV_eq];exact hg)
 simp only [List.map_cons,List.map_nil,tV_eq] at this
 exact this
theorem op3_call (c a b:Te) (k w:Int) (H:Heap) (id nx:Nat) (hg:hget H id=some (.row 6 [.agg [.int .u8 (c).k,.int .i64 (c).w,.int .u64 (c).b,.str (c).s,.int .i64 (c).lo,.lst (c).e ((c).l.map tV)],.agg [.int .u8 (a).k,.int .i64 (a).w,.int .u64 (a).b,.str (a).s,.int .i64 (a).lo,.lst (a).e ((a).l.map tV)],.agg [.int .u8 (b).k,.int .i64 (b).w,.int .u64 (b).b,.str (b).s,.int .i64 (b).lo,.lst (b).e ((b).l.map tV)]])) :
  lim T 16 [.int .u8 k,.int .i64 w,.sref 6 id 3 0 3] H nx=some (.agg [.int .u8 k,.int .i64 w,.int .u64 0,.str [],.int .i64 0,.lst false [.agg [.int .u8 (c).k,.int .i64 (c).w,.int .u64 (c).b,.str (c).s,.int .i64 (c).lo,.lst (c).e ((c).l.map tV)],.agg [.int .u8 (a).k,.int .i64 (a).w,.int .u64 (a).b,.str (a).s,.int .i64 (a).lo,.lst (a).e ((a).l.map tV)],.agg [.int .u8 (b).k,.int .i64 (b).w,.int .u64 (b).b,.str (b).s,.int .i64 (b).lo,.lst (b).e ((b).l.map tV)]]],hset H id (.fro 6 [.agg [.int .u8 (c).k,.int .i64 (c).w,.int .u64 (c).b,.str (c).s,.int .i64 (c).lo,.lst (c).e ((c).l.map tV)],.agg [.int .u8 (a).k,.int .i64 (a).w,.int .u64 (a).b,.str (a).s,.int .i64 (a).lo,.lst (a).e ((a).l.map tV)],.agg [.int .u8 (b).k,.int .i64 (b).w,.int .u64 (b).b,.str (b).s,.int .i64 (b).lo,.lst (b).e ((b).l.map tV)]]),nx):=by
 have:=op_call [c,a,b] 3 rfl (by decide) k w H id nx (by simp only [List.map_cons,List.map_nil,tV_eq];exact hg)
 simp only [List.map_cons,List.map_nil,tV_eq] at this
 exact this
abbrev OkL (s0:Te) (x:Te):Prop:=TOk x∧size x ≤ 1000000∧(checkS x=0→sameT (simT x) s0=true)
theorem sl_loop1 (H:Heap) (s0:Te) (hs0:size s0 ≤ 1000000) (A:List Te) (hl:A.length=12) (hA:∀ x ∈ A,OkL s0 x) (hcut:cutH 133 H=H) (hlow:lowHeap 133 H=true) (xs:List FV) (hxs:xs=A.map tV) (hrow:hget H 97=some (.row 6 xs)) (h15:hget H 15=some (.row 6 [.agg [.int .u8 (s0).k,.int .i64 (s0).w,.int .u64 (s0).b,.str (s0).s,.int .i64 (s0).lo,.lst (s0).e ((s0).l.map tV)]])) (Q:Post Out)
  (next:@Ok Out (runs T [.code k7_3] [(3,.bool true),(4,.ptr 15 1 0 0),(8,.ptr 30 1 0 0),(9,.sref 6 97 12 0 12),(10,.sref 6 130 6 0 6),(11,.int .i64 ((12:Nat):Int)),(142,.bool false)] H 137) Q) :
  ∀ (k i:Nat),i + k=12 →
  @Ok Out (runs T [.code b7_0,.inL (some 133) b7_0,.inB 0,.code k7_3] [(3,.bool true),(4,.ptr 15 1 0 0),(8,.ptr 30 1 0 0),(9,.sref 6 97 12 0 12),(10,.sref 6 130 6 0 6),(11,.int .i64 i)] H 133) Q:=by
 subst hxs
 intro k
 induction k with
 |zero =>
  intro i hi
  have e:i=12:=by omega
  subst e
  have d0:decide (((12:Nat):Int) < ((12:Nat):Int))=false:=by decide
  simp (disch:=first | exact d_LL | fail) only [unf b7_0.eq_1,c7,d0,LAWSb,EVS,Nat.reduceAdd,Nat.reduceSub,Int.reduceToNat,Nat.reduceMul,Nat.reduceEqDiff,Nat.reduceLeDiff,Int.reduceEq,Int.reduceLT,Int.reduceLE,↓reduceIte]
  exact next
 |succ k ih =>
  intro i hi
  have hil:i < A.length:=by omega
  have d1:decide ((i:Int) < ((12:Nat):Int))=true:=decide_eq_true (by omega)
  obtain ⟨q1,q2,q3⟩:=hA _ (getD_mem (d:=default) hil)
  have kx:KOk (A.getD i default):=fun x hx=>(q1 x hx).1.1
  have sv:=sTerm_spec _ q1 q2
  have ck:=check_pure _ q2 kx
  unfold sTermV at sv
  have e:∀ q o,133 ≤ q→cutH 133 ((q,o)::H)=H:=fun q o hq=>by simp only [cutH,if_neg (Nat.not_lt.2 hq),hcut]
  by_cases hc:checkS (A.getD i default)=0
  ·rw [hc,if_pos rfl] at sv
   rw [hc] at ck
   have hz:=(red_Rd _ (GT_of q1 hc)).sz
   have hss:=same_pure (simT (A.getD i default)) s0 (by rw [size_er];omega) hs0
   rw [q3 hc] at hss
   simp (disch:=first | exact d_LL | fail) only [unf b7_0.eq_1,c7,d1,LAWSb,hl,hrow,h15,sv,ck,hss,EVS,Nat.reduceAdd,Nat.reduceSub,Int.reduceToNat,Nat.reduceMul,Nat.reduceEqDiff,Nat.reduceLeDiff,Int.reduceEq,Int.reduceLT,Int.reduceLE,↓reduceIte]
   refine Ok_inL (by decide) (by simp [lowTm,low]) (by rw [e _ _ (by decide)];exact hlow) ?_
   rw [e _ _ (by decide)]
   exact ih (i + 1) (by omega)
  ·rw [if_neg hc] at sv
   have d2:decide (checkS (A.getD i default)=0)=false:=decide_eq_false hc
   simp (disch:=first | exact d_LL | fail) only [unf b7_0.eq_1,c7,d1,d2,LAWSb,hl,hrow,h15,sv,ck,EVS,Nat.reduceAdd,Nat.reduceSub,Int.reduceToNat,Nat.reduceMul,Nat.reduceEqDiff,Nat.reduceLeDiff,Int.reduceEq,Int.reduceLT,Int.reduceLE,↓reduceIte]
   refine Ok_inL (by decide) (by simp [lowTm,low]) (by rw [e _ _ (by decide)];exact hlow) ?_
   rw [e _ _ (by decide)]
   exact ih (i + 1) (by omega)
theorem sl_loop2 (H:Heap) (s0:Te) (hs0:size s0 ≤ 1000000) (A:List Te) (hl:A.length=6) (hA:∀ x ∈ A,OkL s0 x) (hcut:cutH 138 H=H) (hlow:lowHeap 138 H=true) (xs:List FV) (hxs:xs=A.map tV) (hrow:hget H 130=some (.row 6 xs)) (h15:hget H 30=some (.row 6 [.agg [.int .u8 (s0).k,.int .i64 (s0).w,.int .u64 (s0).b,.str (s0).s,.int .i64 (s0).lo,.lst (s0).e ((s0).l.map tV)]])) (Q:Post Out)
  (next:@Ok Out (runs T [.code k7_2] [(3,.bool true),(8,.ptr 30 1 0 0),(10,.sref 6 130 6 0 6),(14,.int .i64 ((6:Nat):Int)),(172,.bool false)] H 142) Q) :
  ∀ (k i:Nat),i + k=6 →
  @Ok Out (runs T [.code b7_1,.inL (some 138) b7_1,.inB 2,.code k7_2] [(3,.bool true),(8,.ptr 30 1 0 0),(10,.sref 6 130 6 0 6),(14,.int .i64 i)] H 138) Q:=by
 subst hxs
 intro k
 induction k with
 |zero =>
  intro i hi
  have e:i=6:=by omega
  subst e
  have d0:decide (((6:Nat):Int) < ((6:Nat):Int))=false:=by decide
  simp (disch:=first | exact d_LL | fail) only [unf b7_1.eq_1,c7,d0,LAWSb,EVS,Nat.reduceAdd,Nat.reduceSub,Int.reduceToNat,Nat.reduceMul,Nat.reduceEqDiff,Nat.reduceLeDiff,Int.reduceEq,Int.reduceLT,Int.reduceLE,↓reduceIte]
  exact next
 |succ k ih =>
  intro i hi
  have hil:i < A.length:=by omega
  have d1:decide ((i:Int) < ((6:Nat):Int))=true:=decide_eq_true (by omega)
  obtain ⟨q1,q2,q3⟩:=hA _ (getD_mem (d:=default) hil)
  have kx:KOk (A.getD i default):=fun x hx=>(q1 x hx).1.1
  have sv:=sTerm_spec _ q1 q2
  have ck:=check_pure _ q2 kx
  unfold sTermV at sv
  have e:∀ q o,138 ≤ q→cutH 138 ((q,o)::H)=H:=fun q o hq=>by simp only [cutH,if_neg (Nat.not_lt.2 hq),hcut]
  by_cases hc:checkS (A.getD i default)=0
  ·rw [hc,if_pos rfl] at sv
   rw [hc] at ck
   have hz:=(red_Rd _ (GT_of q1 hc)).sz
   have hss:=same_pure (simT (A.getD i default)) s0 (by rw [size_er];omega) hs0
   rw [q3 hc] at hss
   simp (disch:=first | exact d_LL | fail) only [unf b7_1.eq_1,c7,d1,LAWSb,hl,hrow,h15,sv,ck,hss,EVS,Nat.reduceAdd,Nat.reduceSub,Int.reduceToNat,Nat.reduceMul,Nat.reduceEqDiff,Nat.reduceLeDiff,Int.reduceEq,Int.reduceLT,Int.reduceLE,↓reduceIte]
   refine Ok_inL (by decide) (by simp [lowTm,low]) (by rw [e _ _ (by decide)];exact hlow) ?_
   rw [e _ _ (by decide)]
   exact ih (i + 1) (by omega)
  ·rw [if_neg hc] at sv
   have d2:decide (checkS (A.getD i default)=0)=false:=decide_eq_false hc
   simp (disch:=first | exact d_LL | fail) only [unf b7_1.eq_1,c7,d1,d2,LAWSb,hl,hrow,h15,sv,ck,EVS,Nat.reduceAdd,Nat.reduceSub,Int.reduceToNat,Nat.reduceMul,Nat.reduceEqDiff,Nat.reduceLeDiff,Int.reduceEq,Int.reduceLT,Int.reduceLE,↓reduceIte]
   refine Ok_inL (by decide) (by simp [lowTm,low]) (by rw [e _ _ (by decide)];exact hlow) ?_
   rw [e _ _ (by decide)]
   exact ih (i + 1) (by omega)
theorem sim_op2 (k w:Int) (a b:Te):simT (opT k w [a,b])=er (stepT (.mk k w 0 [] 0 false [redT a,redT b])):=by
 show er (redT (opT k w [a,b]))=_
 rw [redT_eq];rfl
theorem sim_op3 (k w:Int) (c a b:Te):simT (opT k w [c,a,b])=er (stepT (.mk k w 0 [] 0 false [redT c,redT a,redT b])):=by
 show er (redT (opT k w [c,a,b]))=_
 rw [redT_eq];rfl
abbrev slA (t:Te):List Te:=[opT 5 t.w [t,conT t.w 0],opT 5 t.w [conT t.w 0,t],opT 6 t.w [t,conT t.w 0],opT 7 t.w [conT t.w 1,t],opT 8 t.w [t,conT t.w (2 ^ t.w.toNat - 1)],opT 9 t.w [conT t.w 0,t],opT 9 t.w [t,t],opT 10 t.w [t,conT t.w 0],opT 11 t.w [t,conT t.w 0],opT 13 t.w [t,conT t.w 0],opT 19 t.w [conT 1 1,t,conT t.w 0],opT 19 t.w [conT 1 0,conT t.w 0,t]]
abbrev nlA (t:Te):List Te:=[opT 6 t.w [t,t],opT 10 t.w [t,t],opT 7 t.w [t,conT t.w 0],opT 8 t.w [conT t.w 0,t],opT 15 t.w [t,conT t.w 1],opT 12 t.w [conT t.w 0,t]]
theorem ok2 {s0:Te} {k w:Int} {a b:Te} (hk:5 ≤ k∧k ≤ 15) (ha:GT a) (hb:GT b) (e1:a.w=w) (e2:b.w=w) (za:size a ≤ 500) (zb:size b ≤ 500) (h:er (stepT (.mk k w 0 [] 0 false [redT a,redT b]))=er s0):OkL s0 (opT k w [a,b]) :=
 ⟨(GT_op2 ha hb hk e1 e2).2,by
  rw [size_eq];show 1 + sizes [a,b] ≤ _
  simp only [sizes];omega,fun _=>same_er _ _ (by rw [sim_op2,er_er];exact h)⟩
theorem ok3 {s0:Te} {w:Int} {c a b:Te} (hc:GT c) (ha:GT a) (hb:GT b) (e0:c.w=1) (e1:a.w=w) (e2:b.w=w) (zc:size c ≤ 500) (za:size a ≤ 500) (zb:size b ≤ 500) (h:er (stepT (.mk 19 w 0 [] 0 false [redT c,redT a,redT b]))=er s0):OkL s0 (opT 19 w [c,a,b]) :=
 ⟨(GT_op3 hc ha hb e0 e1 e2).2,by
  rw [size_eq];show 1 + sizes [c,a,b] ≤ _
  simp only [sizes];omega,fun _=>same_er _ _ (by rw [sim_op3,er_er];exact h)⟩
theorem tV_op (k w:Int) (l:List Te):tV (opT k w l)=.agg [.int .u8 k,.int .i64 w,.int .u64 0,.str [],.int .i64 0,.lst false (l.map tV)]:=tV_eq _
theorem slA_ok {t:Te} (hg:GT t) (hz:size t ≤ 500):∀ x ∈ slA t,OkL (simT t) x:=by
 obtain ⟨w1,w2⟩:=nodesOk_wide hg.1
 have hr:=red_Rd t hg
 have hw:=hr.w
 have gr:=hr.g
 have hp:=pow_pos' t.w.toNat
 have hp2:(2:Int) ^ 1 ≤ 2 ^ t.w.toNat:=pow_le (by omega)
 have g0:GT (conT t.w 0):=GT_con ⟨w1,w2⟩ (by omega) (by omega)
 have g1:GT (conT t.w 1):=GT_con ⟨w1,w2⟩ (by omega) (by omega)
 have gX:GT (conT t.w (2 ^ t.w.toNat - 1)):=GT_con ⟨w1,w2⟩ (by omega) (by omega)
 have c1:GT (conT 1 1):=GT_con (by decide) (by decide) (by decide)
 have c0:GT (conT 1 0):=GT_con (by decide) (by decide) (by decide)
 have z1:∀ w c,size (conT w c) ≤ 500:=fun w c=>by show 1 ≤ 500;decide
 have es:er (simT t)=er (redT t):=er_er _
 intro x hx
 simp only [slA,List.mem_cons,List.not_mem_nil,or_false] at hx
 rcases hx with rfl | rfl | rfl | rfl | rfl | rfl | rfl | rfl | rfl | rfl | rfl | rfl
 ·exact ok2 (by omega) hg g0 rfl rfl hz (z1 _ _) (by rw [red_con,es];exact sl5r gr hw)
 ·exact ok2 (by omega) g0 hg rfl rfl (z1 _ _) hz (by rw [red_con,es];exact sl5l gr hw)
 ·exact ok2 (by omega) hg g0 rfl rfl hz (z1 _ _) (by rw [red_con,es];exact sl6r gr hw)
 ·exact ok2 (by omega) g1 hg rfl rfl (z1 _ _) hz (by rw [red_con,es];exact sl7l gr hw)
 ·exact ok2 (by omega) hg gX rfl rfl hz (z1 _ _) (by rw [red_con,es];exact sl8r gr hw)
 ·exact ok2 (by omega) g0 hg rfl rfl (z1 _ _) hz (by rw [red_con,es];exact sl9l gr hw)
 ·exact ok2 (by omega) hg hg rfl rfl hz hz (by rw [es];exact sl9s gr hw)
 ·exact ok2 (by omega) hg g0 rfl rfl hz (z1 _ _) (by rw [red_con,es];exact sl10r gr hw)
 ·exact ok2 (by omega) hg g0 rfl rfl hz (z1 _ _) (by rw [red_con,es];exact sl11r gr hw)
 ·exact ok2 (by omega) hg g0 rfl rfl hz (z1 _ _) (by rw [red_con,es];exact sl13r gr hw)
 ·exact ok3 c1 hg g0 rfl rfl rfl (z1 _ _) hz (z1 _ _) (by rw [red_con,red_con,es];exact sl19a gr hw)
 ·exact ok3 c0 g0 hg rfl rfl rfl (z1 _ _) (z1 _ _) hz (by rw [red_con,red_con,es];exact sl19b gr hw)
theorem nlA_ok {t:Te} (hg:GT t) (hz:size t ≤ 500):∀ x ∈ nlA t,OkL (conT t.w 0) x:=by
 obtain ⟨w1,w2⟩:=nodesOk_wide hg.1
 have hr:=red_Rd t hg
 have hw:=hr.w
 have gr:=hr.g
 have hp:=pow_pos' t.w.toNat
 have hp2:(2:Int) ^ 1 ≤ 2 ^ t.w.toNat:=pow_le (by omega)
 have g0:GT (conT t.w 0):=GT_con ⟨w1,w2⟩ (by omega) (by omega)
 have g1:GT (conT t.w 1):=GT_con ⟨w1,w2⟩ (by omega) (by omega)
 have z1:∀ w c,size (conT w c) ≤ 500:=fun w c=>by show 1 ≤ 500;decide
 intro x hx
 simp only [nlA,List.mem_cons,List.not_mem_nil,or_false] at hx
 rcases hx with rfl | rfl | rfl | rfl | rfl | rfl
 ·exact ok2 (by omega) hg hg rfl rfl hz hz (nl6 gr hw)
 ·exact ok2 (by omega) hg hg rfl rfl hz hz (nl10 gr hw)
 ·exact ok2 (by omega) hg g0 rfl rfl hz (z1 _ _) (by rw [red_con];exact nl7 gr hw)
 ·exact ok2 (by omega) g0 hg rfl rfl (z1 _ _) hz (by rw [red_con];exact nl8 gr hw)
 ·exact ok2 (by omega) hg g1 rfl rfl hz (z1 _ _) (by rw [red_con];exact nl15 gr hw)
 ·exact ok2 (by omega) g0 hg rfl rfl (z1 _ _) hz (by rw [red_con];exact nl12 gr hw)
theorem law_SL (t:Te) (ht:TOk t):∀ h nx,lim T 7 [.agg [.int .u8 (t).k,.int .i64 (t).w,.int .u64 (t).b,.str (t).s,.int .i64 (t).lo,.lst (t).e ((t).l.map tV)]] h nx=some (.bool true,h,nx):=by
 refine lim_iso tg7 rfl rfl (by simp [pures,pure_,pu_Ts]) ?_
 obtain ⟨b1,g1,c1⟩:=great_spec t ht
 cases b1 with
 |true=>simp (disch:=first | exact d_LL | fail) only [c7,LAWSb,alive_iso,p_op,c1,EVS,Nat.reduceAdd,Nat.reduceSub,Int.reduceToNat,Nat.reduceMul,Nat.reduceEqDiff,Nat.reduceLeDiff,Int.reduceEq,Int.reduceLT,Int.reduceLE,↓reduceIte]
 |false =>
  obtain ⟨sa,da,_⟩:=g1 rfl
  have s1:=sTerm_spec t ht (by omega)
  unfold sTermV at s1
  by_cases hc:checkS t=0
  ·rw [hc,if_pos rfl] at s1
   have hg:=GT_of ht hc
   have hw:=nodesOk_wide hg.1
   have hS:shr .u64 18446744073709551615 (64 - t.w)=2 ^ t.w.toNat - 1:=by
    have:=shr_mask (n:=t.w.toNat) (by omega)
    rwa [show ((t.w.toNat:Nat):Int)=t.w by omega] at this
   have oTZ:=op2_call t (conT t.w 0)
   have oZT:=op2_call (conT t.w 0) t
   have oTT:=op2_call t t
   have oET:=op2_call (conT t.w 1) t
   have oTE:=op2_call t (conT t.w 1)
   have oTX:=op2_call t (conT t.w (2 ^ t.w.toNat - 1))
   have o1TZ:=op3_call (conT 1 1) t (conT t.w 0)
   have o0ZT:=op3_call (conT 1 0) (conT t.w 0) t
   simp (disch:=first | exact d_LL | fail) only [c7,LAWSb,alive_iso,p_op,c1,s1,con3_spec,oTZ,oZT,oTT,oET,oTE,oTX,hS,o1TZ,o0ZT,EVS,Nat.reduceAdd,Nat.reduceSub,Int.reduceToNat,Nat.reduceMul,Nat.reduceEqDiff,Nat.reduceLeDiff,Int.reduceEq,Int.reduceLT,Int.reduceLE,↓reduceIte]
   have hz:=(red_Rd t hg).sz
   have zs:size (simT t) ≤ 1000000:=by rw [size_er];omega
   refine sl_loop1 _ (simT t) zs (slA t) rfl (slA_ok hg sa) rfl (by simp [lowHeap,lowObj,lows,low,LAWSb]) _ ?_ rfl rfl _ ?_ 12 0 rfl
   ·simp only [slA,List.map_cons,List.map_nil,tV_op]
    simp only [List.map_cons,List.map_nil,tV_eq]
   ·simp (disch:=first | exact d_LL | fail) only [unf k7_3.eq_1,c7,LAWSb,EVS,Nat.reduceAdd,Nat.reduceSub,Int.reduceToNat,Nat.reduceMul,Nat.reduceEqDiff,Nat.reduceLeDiff,Int.reduceEq,Int.reduceLT,Int.reduceLE,↓reduceIte]
    refine sl_loop2 _ (conT t.w 0) (by show 1 ≤ 1000000;decide) (nlA t) rfl (nlA_ok hg sa) rfl (by simp [lowHeap,lowObj,lows,low,LAWSb]) _ ?_ rfl rfl _ ?_ 6 0 rfl
    ·simp only [nlA,List.map_cons,List.map_nil,tV_op]
     simp only [List.map_cons,List.map_nil,tV_eq]
    ·simp (disch:=first | exact d_LL | fail) only [unf k7_2.eq_1,c7,LAWSb,EVS,Nat.reduceAdd,Nat.reduceSub,Int.reduceToNat,Nat.reduceMul,Nat.reduceEqDiff,Nat.reduceLeDiff,Int.reduceEq,Int.reduceLT,Int.reduceLE,↓reduceIte]
  ·rw [if_neg hc] at s1
   have d1:decide (checkS t=0)=false:=decide_eq_false hc
   simp (disch:=first | exact d_LL | fail) only [c7,LAWSb,alive_iso,p_op,c1,s1,d1,EVS,Nat.reduceAdd,Nat.reduceSub,Int.reduceToNat,Nat.reduceMul,Nat.reduceEqDiff,Nat.reduceLeDiff,Int.reduceEq,Int.reduceLT,Int.reduceLE,↓reduceIte]
end Go.Proofs.YtjmppkmacaeahaaGreatDoor.Fi
