/- More rules for simp: calls that do not panic, further operations, loops over functions, regions that may panic. -/
import Derived.Test.YtkobnfjeehnhlaaGreatDoorFIW
set_option linter.all false
set_option linter.unusedSimpArgs false
set_option linter.unusedVariables false
set_option linter.unusedSectionVars false
namespace Go.FI
noncomputable section
section
variable {T : Tab} {cal : Call} {id : Nat} {d : Option Nat} {re : List (Option (Nat × Bool) × Option Nat × Nat × Nat)} {m : Tm} {h : Heap} {nx : Nat} {x y z : X} {r : List G} {k : List I}

theorem np_l {f : Nat} {a : List FV} : np (lim T) f a h nx = @B (FV × Heap × Nat) (FV × Heap × Nat) (lim T f a h nx) ⟨fun r => @If (Option (FV × Heap × Nat)) (isPan r.1) ⟨none, some r⟩⟩ := by
  unfold np
  show bnd _ _ = bnd _ _
  congr 1
  funext r
  cases hp : isPan r.1 <;> simp [chk, If, hp]
theorem npl_some {f : Nat} {a : List FV} {q : FV × Heap × Nat} (hl : lim T f a h nx = some q) (hp : isPan q.1 = false) : np (lim T) f a h nx = some q := by
  rw [np_l, hl, B_some, hp, If_f]
theorem pan_i {k : IntKind} {n : Int} : isPan (.int k n) = false := rfl
theorem pan_b {b : Bool} : isPan (.bool b) = false := rfl
theorem pan_s {b : List UInt8} : isPan (.str b) = false := rfl
theorem pan_a {cs : List FV} : isPan (.agg cs) = false := rfl
theorem pan_t {cs : List FV} : isPan (.tup cs) = false := rfl
theorem pan_l {b : Bool} {cs : List FV} : isPan (.lst b cs) = false := rfl
theorem pan_e {cs : List FV} {o : Nat} : isPan (.eptr cs o) = false := rfl
theorem pan_p {a b c e : Nat} : isPan (.ptr a b c e) = false := rfl
theorem pan_r {a b c e f : Nat} : isPan (.sref a b c e f) = false := rfl
theorem pan_m {a : Nat} : isPan (.map a) = false := rfl
theorem pan_f {a : Nat} {cs : List FV} : isPan (.fn a cs) = false := rfl
theorem pan_c {a : Nat} {v : FV} : isPan (.ifc a v) = false := rfl
theorem pan_n : isPan .nilp = false := rfl
theorem pan_nf : isPan .nilf = false := rfl
theorem pan_nm : isPan .nilm = false := rfl
theorem pan_ni : isPan .nili = false := rfl
theorem pan_pan {v : FV} : isPan (.pan v) = true := rfl

def snV (n : Bool) : FV → Option FV
  | .lst _ (_ :: _) => some (.bool n)
  | .sref _ _ _ _ (_ + 1) => some (.bool n)
  | _ => none
theorem r_sn {n : Bool} : rops cal id (⟨d, none, .sn n x, []⟩ :: r) m h nx = @B FV (Tm × Heap × Nat) (snV n (ev m x)) ⟨fun v => rops cal (id + 1) r (put m d v) h nx⟩ := rops_v rfl
theorem snV_l {n e : Bool} {v : FV} {vs : List FV} : snV n (.lst e (v :: vs)) = some (.bool n) := rfl
def xaV (n es : Nat) (ag : Option Nat) : FV → FV → Option FV
  | .agg cs, .int _ k => @Ck FV (0 ≤ k ∧ k < n) ⟨fun _ => cellsAt cs ag (k.toNat * es)⟩
  | _, _ => none
theorem xaV_a {n es : Nat} {ag : Option Nat} {cs : List FV} {k : IntKind} {j : Int} : xaV n es ag (.agg cs) (.int k j) = @Ck FV (0 ≤ j ∧ j < n) ⟨fun _ => cellsAt cs ag (j.toNat * es)⟩ := rfl
theorem r_xa {n es : Nat} {ag : Option Nat} : rops cal id (⟨d, none, .xa n es ag x y, []⟩ :: r) m h nx = @B FV (Tm × Heap × Nat) (xaV n es ag (ev m x) (ev m y)) ⟨fun v => rops cal (id + 1) r (put m d v) h nx⟩ := rops_v (by
  show bnd (opv h m (.xa n es ag x y)) _ = _
  congr 1
  simp only [opv]
  cases ev m x <;> (try rfl) <;> cases ev m y <;> (try rfl)
  simp only [xaV, Ck_chk])
def csV (h : Heap) (v : FV) : Option FV := @B (List FV) FV (sliceElems h v) ⟨fun xs => @B (List UInt8) FV (bytesV xs) ⟨fun s => some (.str s)⟩⟩
theorem r_cs : rops cal id (⟨d, none, .cs x, []⟩ :: r) m h nx = @B FV (Tm × Heap × Nat) (csV h (ev m x)) ⟨fun v => rops cal (id + 1) r (put m d v) h nx⟩ := rops_v rfl
theorem csV_l {e : Bool} {xs : List FV} : csV h (.lst e xs) = @B (List UInt8) FV (bytesV xs) ⟨fun s => some (.str s)⟩ := rfl
theorem csV_r {es i st off l : Nat} : csV h (.sref es i st off l) = @B (List FV) FV (elems h (.sref es i st off l)) ⟨fun xs => @B (List UInt8) FV (bytesV xs) ⟨fun s => some (.str s)⟩⟩ := rfl
def taV (t : Nat) (zv : FV) : FV → Option FV
  | .ifc u v => some (if u = t then .tup [v, .bool true] else .tup [zv, .bool false])
  | .nili => some (.tup [zv, .bool false])
  | _ => none
theorem r_ta {t : Nat} {zv : FV} : rops cal id (⟨d, none, .ta t zv x, []⟩ :: r) m h nx = @B FV (Tm × Heap × Nat) (taV t zv (ev m x)) ⟨fun v => rops cal (id + 1) r (put m d v) h nx⟩ := rops_v rfl
theorem taV_i {t u : Nat} {zv v : FV} : taV t zv (.ifc u v) = some (if u = t then .tup [v, .bool true] else .tup [zv, .bool false]) := rfl
theorem taV_n {t : Nat} {zv : FV} : taV t zv .nili = some (.tup [zv, .bool false]) := rfl
def isnV (n : Bool) : FV → Option FV
  | .ifc _ _ => some (.bool n)
  | .nili => some (.bool !n)
  | _ => none
theorem r_isn {n : Bool} : rops cal id (⟨d, none, .isn n x, []⟩ :: r) m h nx = @B FV (Tm × Heap × Nat) (isnV n (ev m x)) ⟨fun v => rops cal (id + 1) r (put m d v) h nx⟩ := rops_v rfl
theorem isnV_i {n : Bool} {u : Nat} {v : FV} : isnV n (.ifc u v) = some (.bool n) := rfl
theorem isnV_n {n : Bool} : isnV n .nili = some (.bool !n) := rfl
def ibV : FV → FV → Option FV
  | .str s, .int .u8 n => some (.int .i64 (idxB s n.toNat.toUInt8))
  | _, _ => none
theorem r_ib : rops cal id (⟨d, none, .ib x y, []⟩ :: r) m h nx = @B FV (Tm × Heap × Nat) (ibV (ev m x) (ev m y)) ⟨fun v => rops cal (id + 1) r (put m d v) h nx⟩ := rops_v rfl
theorem ibV_s {s : List UInt8} {n : Int} : ibV (.str s) (.int .u8 n) = some (.int .i64 (idxB s n.toNat.toUInt8)) := rfl

theorem lim_iso_any {f : Nat} {d : Fn} {args : List FV} {r : FV} {h0 h' : Heap} {nx0 nx' : Nat} (ht : tget T f = some (.fn d)) (hm : d.mode = .iso) (hl : lim T f args h0 nx0 = some (r, h', nx')) (hlt : f < RB := by decide) : ∀ h nx, lim T f args h nx = some (r, h, nx) := by
  intro h nx
  rw [lim_fn ht hlt] at hl ⊢
  unfold enterWith at hl ⊢
  rw [hm] at hl ⊢
  simp only at hl ⊢
  obtain ⟨h1, hl⟩ := chk_some hl
  obtain ⟨h2, hl⟩ := chk_some hl
  rw [chk, if_pos h1, chk, if_pos h2]
  obtain ⟨x, h3, hl⟩ := bnd_some hl
  obtain ⟨v, h4, hl⟩ := bnd_some hl
  obtain ⟨r', h5, hl⟩ := bnd_some hl
  cases hl
  exact bnd_mk h3 (bnd_mk h4 (bnd_mk h5 rfl))
/-- A function that takes lent slices, called with values alone. -/
theorem lim_isf1 {f : Nat} {d : Fn} {args : List FV} {r : FV} (ht : tget T f = some (.fn d)) (hm : d.mode = .isf) (hn : args.length = d.np) (hp : pures args = true) (hs : args.length ≤ deep)
    (hr : @Ok Out (runs T [.code d.body] (params 0 args) [] 0) ⟨fun x => finV d.res x = some r⟩) (hf : flat r = true) (hlt : f < RB := by decide) : ∀ h nx, lim T f args h nx = some (r, h, nx) := by
  intro h nx
  obtain ⟨x, h1, h2⟩ := hr
  rw [lim_isf ht hm hn hlt, frzs_pure hp hs, B_some]
  unfold isfR
  rw [h1, B_some, h2, B_some, Ck_pos hf]

/-! a loop over a function -/
theorem w_rf {f : Nat} {x : X} {ct : List Nat} {q : Nat} {caps : List FV} (hx : ev m x = .fn q caps) :
    runs T (.code (.rf f x ct) :: k) m h nx = @B (FV × Heap × Nat) Out (np (lim T) q (.yl f nx (evs m (ct.map .t)) :: caps) ((nx, .lp 0 0) :: h) (nx + 1)) ⟨rfK T k m nx⟩ := runs_rf hx
theorem rfK_0 {v : FV} {h' : Heap} {nx' st : Nat} (hg : hget h' nx = some (.lp st 0)) (hs : st ≠ 1) : rfK T k m nx (v, h', nx') = runs T k m (hset h' nx (.lp 3 0)) nx' := by
  simp only [rfK, hg, chk, if_pos hs, jpI]
theorem rfK_1 {v : FV} {h' : Heap} {nx' st : Nat} (hg : hget h' nx = some (.lp st 1)) (hs : st ≠ 1) : rfK T k m nx (v, h', nx') = runs T (.code .rt :: k) m (hset h' nx (.lp 3 1)) nx' := by
  simp only [rfK, hg, chk, if_pos hs, jpI]
theorem w_beg {id jp : Nat} (hg : hget h id = some (.lp 0 jp)) : runs T (.beg id :: k) m h nx = runs T k m (hset h id (.lp 1 jp)) nx := by
  rw [runs_beg]; simp only [hg]
/-- A round. -/
theorem lim_round {f : Nat} {d : Rd} {g id jp : Nat} {caps xs : List FV} (ht : tget T f = some (.rd d)) (hx : xs.length = d.ps.length) (hc : caps.length = d.ct.length) (hg : hget h id = some (.lp 0 jp)) (hge : RB ≤ f := by decide) :
    lim T f (.yl g id caps :: xs) h nx = @B Out (FV × Heap × Nat) (runs T [.code d.asg, .beg id, .code d.body] (zipTm d.ps xs ++ zipTm d.ct caps) h nx) ⟨leave id⟩ := by
  rw [lim_rd ht hge]
  simp only [roundWith]
  rw [chk, if_pos ⟨hx, hc, by simp [isLp, hg]⟩]
  rfl
theorem leave_fin {st jp : Nat} (hg : hget h id = some (.lp st jp)) : leave id (.fin, m, h, nx) = some (.bool true, hset h id (.lp 0 0), nx) := by simp [leave, hg]
theorem leave_ret {st jp : Nat} (hg : hget h id = some (.lp st jp)) : leave id (.ret, m, h, nx) = some (.bool false, hset h id (.lp 2 1), nx) := by simp [leave, hg]
theorem leave_xt {e st jp : Nat} (hg : hget h id = some (.lp st jp)) : leave id (.xt e, m, h, nx) = some (.bool false, hset h id (.lp 2 (e + 2)), nx) := by simp [leave, hg]

/-! regions that may panic -/
def isCP : O → Bool
  | .pn _ | .cl _ _ => true
  | _ => false
def rqK (T : Tab) (keep : List Nat) (k : List I) (x : Option FV × Tm × Heap × Nat) : Option Out :=
  match x.1 with
  | none => runs T k (keepOf x.2.1 keep) x.2.2.1 x.2.2.2
  | some v => some (.pan v, x.2.1, x.2.2.1, x.2.2.2)
theorem w_rq {gs : List G} {keep : List Nat} : runs T (.code (.rq gs keep) :: k) m h nx = @B (Option FV × Tm × Heap × Nat) Out (ropsP (lim T) nx gs m h (nx + gs.length)) ⟨rqK T keep k⟩ := by
  cases hl : ropsP (lim T) nx gs m h (nx + gs.length) with
  | none => exact runs_none fun n => by simp only [run, hl, bnd]
  | some x =>
    obtain ⟨o, y⟩ := x
    cases o with
    | none => exact runs_step fun n => by simp only [run, hl, bnd]
    | some v => exact runs_end fun n => by simp only [run, hl, bnd]
theorem rqK_n {keep : List Nat} : rqK T keep k (none, m, h, nx) = runs T k (keepOf m keep) h nx := rfl
theorem rqK_s {keep : List Nat} {v : FV} : rqK T keep k (some v, m, h, nx) = some (.pan v, m, h, nx) := rfl
theorem p_nil : ropsP cal id [] m h nx = some (none, m, h, nx) := rfl
theorem p_op {o : O} (ho : isCP o = false) : ropsP cal id (⟨d, none, o, []⟩ :: r) m h nx = @B (Tm × Heap × Nat) (Option FV × Tm × Heap × Nat) (rops (np cal) id [⟨d, none, o, []⟩] m h nx) ⟨fun y => ropsP cal (id + 1) r y.1 y.2.1 y.2.2⟩ := by
  have e : rops (np cal) id [⟨d, none, o, []⟩] m h nx = bnd (opg (np cal) id ⟨d, none, o, []⟩ m h nx) fun x => some (put m d x.1, x.2.1, x.2.2) := rfl
  rw [e]
  have e2 : ropsP cal id (⟨d, none, o, []⟩ :: r) m h nx = bnd (opg (np cal) id ⟨d, none, o, []⟩ m h nx) fun x => ropsP cal (id + 1) r (put m d x.1) x.2.1 x.2.2 := by
    cases o <;> first | rfl | (simp [isCP] at ho)
  rw [e2]
  cases opg (np cal) id ⟨d, none, o, []⟩ m h nx <;> rfl
/-- A call that may panic. -/
def pcK (cal : Call) (id : Nat) (d : Option Nat) (r : List G) (m : Tm) (y : FV × Heap × Nat) : Option (Option FV × Tm × Heap × Nat) :=
  match y.1 with
  | .pan v => some (some v, m, y.2.1, y.2.2)
  | v => ropsP cal (id + 1) r (put m d v) y.2.1 y.2.2
theorem p_cl {f : Nat} {as : List X} : ropsP cal id (⟨d, none, .cl f as, re⟩ :: r) m h nx = @B (FV × Heap × Nat) (Option FV × Tm × Heap × Nat) (cal f (evs m as) h nx) ⟨pcK cal id d r m⟩ := by
  have e : ropsP cal id (⟨d, none, .cl f as, re⟩ :: r) m h nx = bnd (cal f (evs m as) h nx) fun y => match y.1 with
          | .pan v => some (some v, m, y.2.1, y.2.2)
          | v => ropsP cal (id + 1) r (put m d v) y.2.1 y.2.2 := rfl
  rw [e]
  cases cal f (evs m as) h nx <;> rfl
theorem pcK_p {v : FV} {h' : Heap} {nx' : Nat} : pcK cal id d r m (.pan v, h', nx') = some (some v, m, h', nx') := rfl
theorem pcK_v {v : FV} {h' : Heap} {nx' : Nat} (hv : isPan v = false) : pcK cal id d r m (v, h', nx') = ropsP cal (id + 1) r (put m d v) h' nx' := by
  cases v <;> first | rfl | (simp [isPan] at hv)
def pnV : FV → Option FV
  | .ifc t v => some (.ifc t v)
  | _ => none
theorem p_pn : ropsP cal id (⟨d, none, .pn x, re⟩ :: r) m h nx = @B FV (Option FV × Tm × Heap × Nat) (pnV (ev m x)) ⟨fun v => some (some v, m, h, nx)⟩ := by
  have e : ropsP cal id (⟨d, none, .pn x, re⟩ :: r) m h nx = match ev m x with
          | .ifc t v => some (some (.ifc t v), m, h, nx)
          | _ => none := rfl
  rw [e]
  cases ev m x <;> rfl
theorem pnV_i {t : Nat} {v : FV} : pnV (.ifc t v) = some (.ifc t v) := rfl
theorem p_gd {op : O} {t : Nat} {c : Bool} : ropsP cal id (⟨d, some (t, c), op, re⟩ :: r) m h nx =
    @B Bool (Option FV × Tm × Heap × Nat) (wantB (gt m t) c) ⟨fun b => @If (Option (Option FV × Tm × Heap × Nat)) b ⟨ropsP cal id (⟨d, none, op, re⟩ :: r) m h nx, ropsP cal (id + 1) r (put m d (.tup [])) h nx⟩⟩ := by
  rw [← wanted_B]
  simp only [ropsP]
  cases wanted m (some (t, c)) with
  | none => rfl
  | some b => cases b <;> rfl
end

theorem EV5 : type_of% (And.intro @np_l <| And.intro @pan_i <| And.intro @pan_b <| And.intro @pan_s <| And.intro @pan_a <| And.intro @pan_t <| And.intro @pan_l <| And.intro @pan_e <| And.intro @pan_p <| And.intro @pan_r <| And.intro @pan_m <| And.intro @pan_f <| And.intro @pan_c <| And.intro @pan_n <| And.intro @pan_nf <| And.intro @pan_nm <| And.intro @pan_ni <| And.intro @pan_pan <|
  And.intro @r_sn <| And.intro @snV_l <| And.intro @r_xa <| And.intro @xaV_a <| And.intro @r_cs <| And.intro @csV_l <| And.intro @csV_r <| And.intro @r_ta <| And.intro @taV_i <| And.intro @taV_n <| And.intro @r_isn <| And.intro @isnV_i <| And.intro @isnV_n <| And.intro @r_ib <| And.intro @ibV_s <|
  And.intro @w_rq <| And.intro @rqK_n <| And.intro @rqK_s <| And.intro @p_nil <| And.intro @p_cl <| And.intro @pcK_p <| And.intro @pcK_v <| And.intro @p_pn <| And.intro @pnV_i <| @p_gd) := And.intro @np_l <| And.intro @pan_i <| And.intro @pan_b <| And.intro @pan_s <| And.intro @pan_a <| And.intro @pan_t <| And.intro @pan_l <| And.intro @pan_e <| And.intro @pan_p <| And.intro @pan_r <| And.intro @pan_m <| And.intro @pan_f <| And.intro @pan_c <| And.intro @pan_n <| And.intro @pan_nf <| And.intro @pan_nm <| And.intro @pan_ni <| And.intro @pan_pan <|
  And.intro @r_sn <| And.intro @snV_l <| And.intro @r_xa <| And.intro @xaV_a <| And.intro @r_cs <| And.intro @csV_l <| And.intro @csV_r <| And.intro @r_ta <| And.intro @taV_i <| And.intro @taV_n <| And.intro @r_isn <| And.intro @isnV_i <| And.intro @isnV_n <| And.intro @r_ib <| And.intro @ibV_s <|
  And.intro @w_rq <| And.intro @rqK_n <| And.intro @rqK_s <| And.intro @p_nil <| And.intro @p_cl <| And.intro @pcK_p <| And.intro @pcK_v <| And.intro @p_pn <| And.intro @pnV_i <| @p_gd
end
end Go.FI
