/- Further operations: is a slice nil;an element of an array;bytes to a string. -/
import Derived.Test.YtkobnfjeehnhlaaGreatDoorFIApp
import Derived.Laws.BytesString
set_option linter.all false
namespace Go.FI
open Go.RowKit
variable [Sys]
section
variable {g:Gh} {w:World} {P:Program} {B:Nat} {w0:World} {hp:Heap} {a:Act} {m:Tm} {dst:Option Tmp} {op:Op} {ty:TypeId} {pos:String} {aft:Array Edge} {gd:Option (Nat × Bool)} {v:FV}
theorem run_equal_nil1 {t e:TypeId} (hd:P.underlying t=some (.slice e)) (b:Addr) (l c:Nat):(Op.equal t (.slice (some b) l c) (.slice none 0 0)).run P w=.ok false w:=by
 show (Op.equalIn (9999 + 1) t _ _).run P w=_
 rw [Op.equalIn]
 simp only [Sem.run_bind,underlying,run_program,Result.andThen_ok,hd,Sem.run_pure]
theorem run_equal_nil2 {t e:TypeId} (hd:P.underlying t=some (.slice e)) (b:Addr) (l c:Nat):(Op.equal t (.slice none 0 0) (.slice (some b) l c)).run P w=.ok false w:=by
 show (Op.equalIn (9999 + 1) t _ _).run P w=_
 rw [Op.equalIn]
 simp only [Sem.run_bind,underlying,run_program,Result.andThen_ok,hd,Sem.run_pure,Option.isNone]
theorem run_ifc {t:TypeId} {ms:Array (String × TypeId)} (hd:P.underlying t=some (.interface ms)) {x:Value} {b:Bool} (hx:x=.nilIface∧b=true ∨ (∃ u y,x=.iface u y)∧b=false) :
  (Op.equal t x .nilIface).run P w=.ok b w∧(Op.equal t .nilIface x).run P w=.ok b w:=by
 rcases hx with ⟨rfl,rfl⟩ | ⟨⟨u,y,rfl⟩,rfl⟩<;>constructor
 all_goals
  show (Op.equalIn (9999 + 1) t _ _).run P w=_
  rw [Op.equalIn]
  simp only [Sem.run_bind,underlying,run_program,Result.andThen_ok,hd,Sem.run_pure]
theorem s_isn (hm : RT g w m a) {neg : Bool} {x : X} (hok : okOp P op (.isn neg x) = true) (h : opv hp m (.isn neg x) = some v) : Yields P g w a ⟨dst, op, ty, pos, aft, gd⟩ v := by
  cases op <;> simp only [okOp, Bool.false_eq_true] at hok
  rename_i p t x' y' t2
  simp only [Bool.and_eq_true, Bool.or_eq_true, decide_eq_true_eq] at hok
  obtain ⟨⟨hop, hxy⟩, h3⟩ := hok
  obtain ⟨d, hd, hp'⟩ := desc_of h3
  cases d <;> simp at hp'
  rename_i ms
  have two : ∀ y, R g w (ev m x) y → ∃ b, (y = .nilIface ∧ b = true ∨ (∃ u z, y = .iface u z) ∧ b = false) ∧ v = .bool (if neg = true then !b else b) := by
    intro y hy
    simp only [opv] at h
    split at h
    · rename_i hx
      rw [hx] at hy
      cases hy with
      | ifc t v x hr =>
        simp only [Option.some.injEq] at h
        exact ⟨false, .inr ⟨⟨_, _, rfl⟩, rfl⟩, by rw [← h]; cases neg <;> rfl⟩
    · rename_i hx
      rw [hx] at hy
      cases hy with
      | nili =>
        simp only [Option.some.injEq] at h
        exact ⟨true, .inl ⟨rfl, rfl⟩, by rw [← h]; cases neg <;> rfl⟩
    · simp at h
  have fin : ∀ (x1 x2 : Operand) (z1 z2 : Value) (b : Bool), (z1 = .nilIface ∨ ∃ u z, z1 = .iface u z) → (z2 = .nilIface ∨ ∃ u z, z2 = .iface u z) → (Op.equal t z1 z2).run P w = .ok b w → (eqGuard p t x1 x2 z1 z2).run P w = .ok () w → (do eqGuard p t x1 x2 z1 z2; binOp p t z1 z2 : Sem Value).run P w = .ok (.bool (if neg = true then !b else b)) w := by
    intro x1 x2 z1 z2 b q1 q2 h1 h2
    have hb : (binOp p t z1 z2).run P w = .ok (.bool (if neg = true then !b else b)) w := by
      subst hop
      rcases q1 with rfl | ⟨u1, y1, rfl⟩ <;> rcases q2 with rfl | ⟨u2, y2, rfl⟩ <;> cases neg
      all_goals first
        | (show (do pure (.bool (← Op.equal t _ _)) : Sem Value).run P w = _
           simp only [Sem.run_bind, h1, Result.andThen_ok, Sem.run_pure]
           rfl)
        | (show (do pure (.bool (!(← Op.equal t _ _))) : Sem Value).run P w = _
           simp only [Sem.run_bind, h1, Result.andThen_ok, Sem.run_pure]
           rfl)
    simp only [Sem.run_bind, h2, Result.andThen_ok]
    exact hb
  have guard : ∀ (x1 x2 : Operand) (y : Value), (x1 = .const .nilIface ∨ x2 = .const .nilIface) → (y = .nilIface ∨ ∃ u z, y = .iface u z) → (eqGuard p t x1 x2 y .nilIface).run P w = .ok () w ∧ (eqGuard p t x1 x2 .nilIface y).run P w = .ok () w := by
    intro x1 x2 y hx hy
    have hp2 : p = .eql ∨ p = .neq := by subst hop; cases neg <;> simp
    have key : ∀ q, (q = BinOp.eql ∨ q = BinOp.neq) → (eqGuard q t x1 x2 y .nilIface).run P w = .ok () w ∧ (eqGuard q t x1 x2 .nilIface y).run P w = .ok () w := by
      intro q hq
      rcases hq with rfl | rfl <;> rcases hy with rfl | ⟨u, z, rfl⟩
      all_goals first
        | (constructor <;> rfl)
        | (rcases hx with rfl | rfl
           · constructor <;> rfl
           · cases x1 <;> constructor <;> rfl)
    exact key p hp2
  rcases hxy with ⟨h1, h2⟩ | ⟨h1, h2⟩
  · obtain ⟨b, e1, e2⟩ := two _ (R_okX hm h1)
    split at h2
    · refine ⟨.bool (if neg = true then !b else b), exec_of_value (do eqGuard p t x' (.const .nilIface) (a.eval x') .nilIface; binOp p t (a.eval x') .nilIface) rfl ?_, by rw [e2]; exact .bool _⟩
      exact fin _ _ _ _ b (e1.imp (·.1) (·.1)) (.inl rfl) (run_ifc hd e1).1 (guard _ _ _ (.inr rfl) (e1.imp (·.1) (·.1))).1
    · simp at h2
  · obtain ⟨b, e1, e2⟩ := two _ (R_okX hm h1)
    split at h2
    · refine ⟨.bool (if neg = true then !b else b), exec_of_value (do eqGuard p t (.const .nilIface) y' .nilIface (a.eval y'); binOp p t .nilIface (a.eval y')) rfl ?_, by rw [e2]; exact .bool _⟩
      exact fin _ _ _ _ b (.inl rfl) (e1.imp (·.1) (·.1)) (run_ifc hd e1).2 (guard _ _ _ (.inl rfl) (e1.imp (·.1) (·.1))).2
    · simp at h2
theorem run_nil1 {t e:TypeId} (hd:P.underlying t=some (.slice e)) (op:BinOp) (neg:Bool) (hop:op=if neg=true then .neq else .eql) (b:Addr) (l c:Nat):(binOp op t (.slice (some b) l c) (.slice none 0 0)).run P w=.ok (.bool neg) w:=by
 subst hop
 cases neg
 ·show (do pure (.bool (← Op.equal t (.slice (some b) l c) (.slice none 0 0))):Sem Value).run P w=_
  simp only [Sem.run_bind,run_equal_nil1 hd,Result.andThen_ok,Sem.run_pure]
 ·show (do pure (.bool (!(← Op.equal t (.slice (some b) l c) (.slice none 0 0)))):Sem Value).run P w=_
  simp only [Sem.run_bind,run_equal_nil1 hd,Result.andThen_ok,Sem.run_pure,Bool.not_false]
theorem run_nil2 {t e:TypeId} (hd:P.underlying t=some (.slice e)) (op:BinOp) (neg:Bool) (hop:op=if neg=true then .neq else .eql) (b:Addr) (l c:Nat):(binOp op t (.slice none 0 0) (.slice (some b) l c)).run P w=.ok (.bool neg) w:=by
 subst hop
 cases neg
 ·show (do pure (.bool (← Op.equal t (.slice none 0 0) (.slice (some b) l c))):Sem Value).run P w=_
  simp only [Sem.run_bind,run_equal_nil2 hd,Result.andThen_ok,Sem.run_pure]
 ·show (do pure (.bool (!(← Op.equal t (.slice none 0 0) (.slice (some b) l c)))):Sem Value).run P w=_
  simp only [Sem.run_bind,run_equal_nil2 hd,Result.andThen_ok,Sem.run_pure,Bool.not_false]
theorem s_sn (hm:RT g w m a) {neg:Bool} {x:X} (hok:okOp P op (.sn neg x)=true) (h:opv hp m (.sn neg x)=some v):Yields P g w a ⟨dst,op,ty,pos,aft,gd⟩ v:=by
 cases op<;>simp only [okOp,Bool.false_eq_true] at hok
 rename_i p t x' y' t2
 simp only [Bool.and_eq_true,Bool.or_eq_true,decide_eq_true_eq] at hok
 obtain ⟨⟨hop,hxy⟩,h3⟩:=hok
 obtain ⟨d,hd,hp'⟩:=desc_of h3
 cases d<;>simp [isSlice] at hp'
 rename_i e
 have some_:∀ y,R g w (ev m x) y→∃ b l c,y=.slice (some b) l c:=by
  intro y hy
  simp only [opv] at h
  split at h
  ·rename_i hx
   rw [hx] at hy
   cases hy with
   |lst=>exact ⟨_,_,_,rfl⟩
  ·rename_i hx
   rw [hx] at hy
   cases hy with
   |sref _ _ _ _ _ l aa cap hk he hs hle ha hh =>
    cases aa with
    |none=>have:=ha (by omega);simp at this
    |some b=>exact ⟨_,_,_,rfl⟩
  ·simp at h
 have hv:v=.bool neg:=by
  simp only [opv] at h
  split at h
  ·simp only [Option.some.injEq] at h;exact h.symm
  ·simp only [Option.some.injEq] at h;exact h.symm
  ·simp at h
 subst hv
 refine ⟨.bool neg,?_,.bool _⟩
 rcases hxy with ⟨h1,h2⟩ | ⟨h1,h2⟩
 ·obtain ⟨b,l,c,e1⟩:=some_ _ (R_okX hm h1)
  split at h2
  ·exact exec_of_value (do eqGuard p t x' (.const (.slice none 0 0)) (a.eval x') (.slice none 0 0);binOp p t (a.eval x') (.slice none 0 0)) rfl (by
    have hg:(eqGuard p t x' (.const (.slice none 0 0)) (a.eval x') (.slice none 0 0)).run P w=.ok () w:=by apply run_eqGuard_plain;rw [e1];simp
    simp only [Sem.run_bind,hg,Result.andThen_ok]
    rw [e1,run_nil1 hd p neg hop])
  ·simp at h2
 ·obtain ⟨b,l,c,e1⟩:=some_ _ (R_okX hm h1)
  split at h2
  ·exact exec_of_value (do eqGuard p t (.const (.slice none 0 0)) y' (.slice none 0 0) (a.eval y');binOp p t (.slice none 0 0) (a.eval y')) rfl (by
    have hg:(eqGuard p t (.const (.slice none 0 0)) y' (.slice none 0 0) (a.eval y')).run P w=.ok () w:=by apply run_eqGuard_plain;simp
    simp only [Sem.run_bind,hg,Result.andThen_ok]
    rw [e1,run_nil2 hd p neg hop])
  ·simp at h2
theorem s_xa (hm:RT g w m a) {n es:Nat} {ag:Option Nat} {x i:X} (hok:okOp P op (.xa n es ag x i)=true) (h:opv hp m (.xa n es ag x i)=some v):Yields P g w a ⟨dst,op,ty,pos,aft,gd⟩ v:=by
 cases op<;>simp only [okOp,Bool.false_eq_true] at hok
 rename_i t x' i'
 simp only [Bool.and_eq_true] at hok
 obtain ⟨⟨h1,h0⟩,h2⟩:=hok
 split at h2
 ·rename_i n' e hd
  simp only [Bool.and_eq_true,beq_iff_eq] at h2
  obtain ⟨⟨rfl,hsz⟩,h3⟩:=h2
  simp only [opv] at h
  split at h
  ·rename_i cs ki k hx hi
   obtain ⟨⟨b1,b2⟩,h⟩:=chk_some h
   obtain ⟨vs,e1,hr⟩:=R_agg (hx ▸ R_okX hm h1:R g w (.agg cs) (a.eval x'))
   have e2:=R_int (hi ▸ R_okX hm h0:R g w (.int ki k) (a.eval i'))
   have key:∀ z,(part e vs.toArray (k.toNat * es)).run P w=.ok z w→R g w v z→Yields P g w a ⟨dst,.index t x' i',ty,pos,aft,gd⟩ v:=fun z hz hR=>by
    refine ⟨z,exec_of_value (Instr.index t (a.eval x') (a.eval i')) rfl (w':=w) ?_,hR⟩
    rw [e1,e2]
    simp only [Instr.index,underlying,Sem.run_bind,run_program,Result.andThen_ok,hd,Sem.run_pure,asIntOf,b1,b2,and_self,if_true,run_sizeOf w hsz]
    exact hz
   cases ag with
   |none =>
    simp only [okAg,Bool.and_eq_true,Bool.not_eq_true'] at h3
    obtain ⟨z,hz,hR⟩:=hr.get _ _ h
    refine key z ?_ hR
    simp [part,run_isAgg _ w h3.2,h3.1,hz]
   |some q =>
    simp only [okAg,Bool.and_eq_true] at h3
    simp only [cellsAt] at h
    obtain ⟨hle,h4⟩:=chk_some h
    simp only [Option.some.injEq] at h4;subst h4
    have hu:(P.underlying e).isSome=true:=by
     have:=h3.1;unfold isAggB at this;split at this<;>simp_all
    refine key (.agg (cut vs (k.toNat * es) (k.toNat * es + q)).toArray) ?_ (.agg _ _ (hr.cut _ _))
    simp [part,run_isAgg _ w hu,h3.1,run_sizeOf w h3.2,cut]
  ·simp at h
 ·simp at h2
theorem bytesV_spec:∀ {xs:List FV} {s:List UInt8},bytesV xs=some s→∃ ns:List Int,xs=ns.map (.int .u8)∧s=ns.map fun n=>UInt8.ofNat n.toNat
 |[],s,h=>by simp only [bytesV,Option.some.injEq] at h;subst h;exact ⟨[],rfl,rfl⟩
 |x::xs,s,h=>by
  unfold bytesV at h
  split at h
  ·simp at *
  ·rename_i n r e
   cases e
   obtain ⟨s',h1,h2⟩:=bnd_some h
   simp only [Option.some.injEq] at h2;subst h2
   obtain ⟨ns,e1,e2⟩:=bytesV_spec h1
   exact ⟨n::ns,by rw [e1];rfl,by rw [e2];rfl⟩
  ·simp at h
theorem foldl_push (ns:List Int):∀ b:ByteArray,(ns.foldl (fun r n=>r.push (UInt8.ofNat n.toNat)) b).data.toList=b.data.toList ++ ns.map fun n=>UInt8.ofNat n.toNat:=by
 induction ns with
 |nil=>intro b;simp
 |cons n ns ih=>intro b;rw [List.foldl_cons,ih];simp [ByteArray.push]
theorem s_cs (hI:Inv B w0 g hp w) (hm:RT g w m a) {x:X} (hok:okOp P op (.cs x)=true) (h:opv hp m (.cs x)=some v):Yields P g w a ⟨dst,op,ty,pos,aft,gd⟩ v:=by
 cases op<;>simp only [okOp,Bool.false_eq_true] at hok
 rename_i s d x'
 simp only [Bool.and_eq_true] at hok
 obtain ⟨⟨h1,h2⟩,h3⟩:=hok
 obtain ⟨ds,hs,hp1⟩:=desc_of h2
 cases ds<;>simp only [Bool.false_eq_true] at hp1
 rename_i e
 obtain ⟨de,he,hp2⟩:=desc_of hp1
 cases de<;>simp [isInt] at hp2
 subst hp2
 obtain ⟨dd,hd,hp3⟩:=desc_of h3
 cases dd<;>simp [isStr] at hp3
 simp only [opv] at h
 obtain ⟨xs,k1,h⟩:=bnd_some h
 obtain ⟨bs,k2,h⟩:=bnd_some h
 simp only [Option.some.injEq] at h;subst h
 obtain ⟨ns,rfl,rfl⟩:=bytesV_spec k2
 have rx:=R_okX hm h1
 have k3:elems hp (ev m x)=some (ns.map (.int .u8))∧∀ s,ev m x ≠ .str s:=by
  unfold sliceElems at k1
  split at k1
  ·simp at k1
  ·rename_i hn;exact ⟨k1,hn⟩
 obtain ⟨news,n1,n2,n3⟩:=elems_sound (P:=P) hI rx k3.1 (es:=1) (by omega) (fun z hz=>by obtain ⟨n,_,rfl⟩:=List.mem_map.1 hz;rfl)
 have hflat:∀ ns:List Int,(ns.map (FV.int .u8)).flatMap FV.cells=ns.map (.int .u8):=by
  intro ns
  induction ns with
  |nil=>rfl
  |cons n ns ih=>rw [List.map_cons,List.flatMap_cons,ih];rfl
 rw [hflat] at n1
 have hnews:news.toList=ns.map (Value.int .u8):=by
  have:∀ (ns:List Int) (l:List Value),RL g w (ns.map (FV.int .u8)) l→l=ns.map (Value.int .u8):=by
   intro ns
   induction ns with
   |nil=>intro l hl;cases hl;rfl
   |cons n ns ih=>intro l hl;cases hl with | cons _ _ _ _ hr hs=>rw [R_int hr,ih _ hs];rfl
  exact this _ _ n1
 have n4:=n3 w rfl
 have hex:∃ o l c,a.eval x'=.slice o l c:=by
  generalize a.eval x'=q at rx n4
  generalize ev m x=y at rx k3
  cases rx<;>first | exact ⟨_,_,_,rfl⟩ | (simp [elems] at k3;done) | (exact absurd rfl (k3.2 _))
 obtain ⟨o,l,c,hq⟩:=hex
 rw [hq] at n4
 have conv:∃ b:ByteArray,b.data.toList=ns.map (fun n=>UInt8.ofNat n.toNat)∧(Conv.bytesToString (.slice o l c)).run P w=.ok (.string b) w:=by
  cases o with
  |none =>
   simp only [Builtin.firstCells,Sem.run_pure,Result.ok.injEq] at n4
   obtain ⟨rfl,_⟩:=n4
   have:ns=[]:=by
    cases ns with
    |nil=>rfl
    |cons n ns=>simp at hnews
   subst this
   exact ⟨.empty,rfl,rfl⟩
  |some ad =>
   have hlen:l=ns.length:=by
    have:=n2 w rfl
    rw [hq] at this
    simp only [Builtin.lenOf,Sem.run_pure,Result.ok.injEq] at this
    simpa using this.1
   simp only [Builtin.firstCells,List.length_map,Nat.mul_one] at n4
   refine ⟨_,?_,run_bytesToString w ad l c ns ?_⟩
   ·rw [foldl_push];simp
   ·rw [hlen,n4,← hnews]
 obtain ⟨b,hb,hrun⟩:=conv
 refine ⟨.string b,exec_of_value (convert s d (a.eval x')) rfl (w':=w) ?_,?_⟩
 ·rw [hq,run_convert_bytes_string w s d e o l c hs he hd,hrun]
 ·rw [← hb];exact .str b
theorem s_ta (hm:RT g w m a) {t:Nat} {z:FV} {x:X} (hok:okOp P op (.ta t z x)=true) (h:opv hp m (.ta t z x)=some v):Yields P g w a ⟨dst,op,ty,pos,aft,gd⟩ v:=by
 cases op<;>simp only [okOp,Bool.false_eq_true] at hok
 rename_i x' xt t' ck
 cases ck<;>simp only [Bool.false_eq_true] at hok
 simp only [Bool.and_eq_true,beq_iff_eq] at hok
 obtain ⟨⟨⟨rfl,h1⟩,h2⟩,hz⟩:=hok
 have hzv:∃ zv,(zeroValue t').run P w=.ok zv w∧R g w z zv:=by
  split at hz
  ·rename_i i hi
   split at hz
   ·rename_i zv hzv
    exact ⟨zv,by simp [zeroValue,typeInfo,hi,hzv],R_okV hz⟩
   ·simp at hz
  ·simp at hz
 obtain ⟨zv,hz1,hz2⟩:=hzv
 have rx:=R_okX hm h1
 simp only [opv] at h
 cases hu:P.underlying t' with
 |none=>rw [hu] at h2;simp at h2
 |some d =>
  rw [hu] at h2
  have hd:∀ ms,d ≠ .interface ms:=by
   intro ms e;subst e;simp at h2
  have fails : ∀ st dy, (do if true then pure (.tuple #[← zeroValue t', .bool false]) else runtimePanic (.typeAssertion st dy t' "") : Sem Value).run P w = .ok (.tuple #[zv, .bool false]) w := fun st dy => by
   simp only [if_true,Sem.run_bind,hz1,Result.andThen_ok,Sem.run_pure]
  split at h
  ·rename_i u vv hx
   rw [hx] at rx
   have:∃ q,a.eval x'=.iface u q∧R g w vv q:=by generalize a.eval x'=q at rx;cases rx with | ifc _ _ q hr=>exact ⟨q,rfl,hr⟩
   obtain ⟨q,e1,hr⟩:=this
   simp only [Option.some.injEq] at h;subst h
   by_cases e:u=t'
   ·subst e
    rw [if_pos rfl]
    refine ⟨.tuple #[q,.bool true],exec_of_value (Instr.typeAssert (a.eval x') xt u true) rfl (w':=w) ?_,.tup _ [q,.bool true] (.cons _ _ _ _ hr (.cons _ _ _ _ (.bool _) .nil))⟩
    rw [e1]
    cases d<;>first | (exact absurd rfl (hd _)) | (simp [Instr.typeAssert,underlying,hu])
   ·rw [if_neg e]
    refine ⟨.tuple #[zv,.bool false],exec_of_value (Instr.typeAssert (a.eval x') xt t' true) rfl (w':=w) ?_,.tup _ [zv,.bool false] (.cons _ _ _ _ hz2 (.cons _ _ _ _ (.bool _) .nil))⟩
    rw [e1]
    cases d<;>first | (exact absurd rfl (hd _)) | (simp [Instr.typeAssert,underlying,hu,e,hz1])
  ·rename_i hx
   rw [hx] at rx
   have e1:a.eval x'=.nilIface:=by generalize a.eval x'=q at rx;cases rx;rfl
   simp only [Option.some.injEq] at h;subst h
   refine ⟨.tuple #[zv,.bool false],exec_of_value (Instr.typeAssert (a.eval x') xt t' true) rfl (w':=w) ?_,.tup _ [zv,.bool false] (.cons _ _ _ _ hz2 (.cons _ _ _ _ (.bool _) .nil))⟩
   rw [e1]
   cases d<;>first | (exact absurd rfl (hd _)) | (simp [Instr.typeAssert,underlying,hu,hz1])
  ·simp at h
def okNs (op:Op):O→Bool
 |.ns x=>match op with
  |.next x' true=>okX x' x
  |_=>false
 |_=>false
theorem e_ns (hI : Inv B w0 g hp w) (hm : RT g w m a) {x : X} (hok : okNs op (.ns x) = true) {id p nx nx' : Nat} {s : List UInt8} {h' : Heap} (hx : ev m x = .ptr id 1 0 0) (hg : hget hp id = some (.sit s p))
    (hh : (if p < s.length then some (FV.tup [.bool true, .int .i64 p, .int .i32 (rune s p).1], hset hp id (.sit s (p + (rune s p).2)), nx) else some (.tup [.bool false], hp, nx)) = some (v, h', nx')) :
    nx' = nx ∧ Does P B w0 g hp w a ⟨dst, op, ty, pos, aft, gd⟩ v h' (fun _ => False) ∧ ∀ i, hget hp i = none → hget h' i = none := by
  cases op <;> simp only [okNs, Bool.false_eq_true] at hok
  rename_i x' bs
  cases bs <;> simp only [Bool.false_eq_true] at hok
  have hr := R_okX hm hok
  rw [hx] at hr
  generalize hev : a.eval x' = y at hr
  cases hr with | ptr _ _ _ _ l ad hk hs hp2 =>
  have ho : SitOk w l s p := hI.obj id _ l hg hk
  obtain ⟨hmp, hlp, hsz, b, hb, he⟩ := ho
  obtain ⟨b', hb', rfl⟩ := hp2 (by rw [hsz])
  rw [hb] at hb'
  cases hb'
  have hblt : b < w.heap.size := (hI.own id l b hk hb).2.2
  have hsize : (⟨s.toArray⟩ : ByteArray).size = s.length := by simp [ByteArray.size]
  split at hh
  · rename_i hlt
    simp only [Option.some.injEq, Prod.mk.injEq] at hh
    obtain ⟨rfl, rfl, rfl⟩ := hh
    have pp : Put g g w { w with heap := w.heap.setIfInBounds b (.stringIter ⟨s.toArray⟩ (p + (rune s p).2)) } id l :=
      { k := fun i => by split; rename_i e; subst e; exact hk; rfl
        z := rfl
        old := fun l2 hl => by rw [hk] at hl; cases hl; exact ⟨Nat.le_refl _, rfl, fun _ => rfl⟩
        blk := fun c e => .inl ⟨l, hk, e⟩
        heap := fun c _ hc => by
          show (w.heap.setIfInBounds b _)[c]? = _
          rw [Array.getElem?_setIfInBounds_ne]
          intro e; exact hc (by rw [hb, e])
        sz := by simp
        lt := fun c e => by rw [hb] at e; cases e; simpa using hblt
        os := rfl
        tape := rfl
        output := rfl }
    have hle := pp.gle hI (fun _ _ => by rw [hg]; rfl)
    refine ⟨rfl, ⟨g, _, _, _, exec_of_value (Instr.next (a.eval x') true ty) rfl (z := .tuple #[.bool true, .int .i64 p, .int .i32 (rune s p).1]) (w' := { w with heap := w.heap.setIfInBounds b (.stringIter ⟨s.toArray⟩ (p + (rune s p).2)) }) ?_, .inl rfl, ?_, hI.put pp (hget_hset hg) ?_ (fun _ _ => by rw [hg]; rfl), hle, fun _ h => .inl h, by simp, fun i _ hki => ⟨hki, ?_⟩⟩, fun i hi => ?_⟩
    · rw [hev]
      show (Instr.next (.pointer (some ⟨b, 0 * l.es + 0, none⟩)) true ty).run P w = _
      rw [show 0 * l.es + 0 = 0 by omega]
      unfold Instr.next
      simp only [Sem.run_bind, Sem.run_pure, Result.andThen_ok]
      have hget : (getObj b).run P w = .ok (.stringIter ⟨s.toArray⟩ p) w := by simp [getObj, Sem.run, he]
      rw [hget]
      simp only [Result.andThen_ok, hsize, if_pos hlt]
      simp [rune, goInt, setObj, Sem.run, he]
    · exact .tup _ _ (.cons _ _ _ _ (.bool _) (.cons _ _ _ _ (.int _ _) (.cons _ _ _ _ (.int _ _) .nil)))
    · exact ⟨hmp, hlp, hsz, b, hb, by simp [hblt]⟩
    · rw [hget_hset hg, if_neg]
      intro e; subst e; rw [hk] at hki; cases hki
    · rw [hget_hset hg, if_neg]
      · exact hi
      · intro e; subst e; rw [hi] at hg; cases hg
  · rename_i hlt
    simp only [Option.some.injEq, Prod.mk.injEq] at hh
    obtain ⟨rfl, rfl, rfl⟩ := hh
    refine ⟨rfl, ⟨g, w, _, _, exec_of_value (Instr.next (a.eval x') true ty) rfl (z := .tuple #[.bool false]) (w' := w) ?_, .inl rfl, ?_, hI, GLe.refl _ _, fun _ h => .inl h, Nat.le_refl _, fun i _ hki => ⟨hki, rfl⟩⟩, fun i hi => hi⟩
    · rw [hev]
      show (Instr.next (.pointer (some ⟨b, 0 * l.es + 0, none⟩)) true ty).run P w = _
      rw [show 0 * l.es + 0 = 0 by omega]
      unfold Instr.next
      simp only [Sem.run_bind, Sem.run_pure, Result.andThen_ok]
      have hget : (getObj b).run P w = .ok (.stringIter ⟨s.toArray⟩ p) w := by simp [getObj, Sem.run, he]
      rw [hget]
      simp only [Result.andThen_ok, hsize, if_neg hlt, Sem.run_pure]
    · exact .tup _ _ (.cons _ _ _ _ (.bool _) .nil)
end
end Go.FI
