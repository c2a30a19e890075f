/- Calls. -/
import Derived.Test.YthjgmhpgplhkgaaFIFrz
set_option linter.unusedSimpArgs false
set_option linter.unusedVariables false
namespace Go.FI
open Go.RowKit

def okRes (P : Program) (nt : Nat) : List ResultVar → List RV → Bool
  | [], [] => true
  | .tmp t :: a, .t n :: b => t == n && okRes P nt a b
  | .cell t ty :: a, .cell n ag :: b => t == n && okAg P ty ag && okRes P nt a b
  | _, _ => false

def okFn (P : Program) (cm : Nat → Nat) (f : Nat) (d : Fn) : Bool :=
  match P.funcs[f]? with
  | some fn => match fn.body with
    | some c => okC P cm fn.ntmps c d.body && decide (d.np ≤ fn.ntmps) && okRes P fn.ntmps fn.results.toList d.res && !(fn.name == "runtime.NumGoroutine")
    | none => false
  | none => false

def cmOf (T : Tab) (f : Nat) : Nat :=
  match tget T f with
  | some (.fn d) => match d.mode with
    | .iso => 0
    | .isf => 1
    | .shr => 2
  | some (.ext _) => 0
  | none => 2

/-- The memory that a call of its own makes: what it gives lies there, or in what it was given. -/
def zone (Z : Nat → Prop) (w w' : World) : Nat → Prop := fun b => Z b ∨ w.heap.size ≤ b ∧ b < w'.heap.size

/-- A call on values alone: it leaves the old memory as it was. -/
def IsoCall (P : Program) (f : Nat) (args : List FV) (v : FV) : Prop := ∀ (Z : Nat → Prop) (w : World) (xs : List Value), (∀ b, Z b → b < w.heap.size) → RL ⟨fun _ => none, Z⟩ w args xs →
  Calls P f xs.toArray w fun e w' => ∃ x, e = .returned x ∧ Below w.heap.size w w' ∧ R ⟨fun _ => none, zone Z w w'⟩ w' v x

/-- What an entry of the table that is no code must satisfy. -/
def ExtOk (P : Program) (f : Nat) (g : List FV → Option FV) : Prop := entered P f = true ∧ ∀ args v, pures args = true → g args = some v → IsoCall P f args v

structure TabOk (P : Program) (T : Tab) : Prop where
  fn : ∀ f d, tget T f = some (.fn d) → okFn P (cmOf T) f d = true
  ext : ∀ f g, tget T f = some (.ext g) → ExtOk P f g
  mix : P.follows .mixedOrders = true

theorem tget_cons {i f : Nat} {x d : Fn} {r : Tab} (h : tget ((i, .fn x) :: r) f = some (.fn d)) : (i = f ∧ x = d) ∨ tget r f = some (.fn d) := by
  simp only [tget] at h
  split at h
  · rename_i e; cases h; exact .inl ⟨e, rfl⟩
  · exact .inr h

theorem tget_cons_ext {i f : Nat} {x : Def} {g : List FV → Option FV} {r : Tab} (h : tget ((i, x) :: r) f = some (.ext g)) : (i = f ∧ x = .ext g) ∨ tget r f = some (.ext g) := by
  simp only [tget] at h
  split at h
  · rename_i e; cases h; exact .inl ⟨e, rfl⟩
  · exact .inr h

section
variable {P : Program} {B : Nat} {w0 : World} {g g' : Gh} {w w' : World} {h h' : Heap} {m : Tm} {a : Act} {nt : Nat} {cm : Nat → Nat}

theorem gt_params : ∀ (args : List FV) (i t : Nat), gt (params i args) t = if i ≤ t then args.getD (t - i) .undef else .undef := by
  intro args
  induction args with
  | nil => intro i t; simp [params, gt]
  | cons v args ih =>
    intro i t
    simp only [params, gt]
    by_cases e : i = t
    · subst e; simp
    · rw [if_neg e, ih]
      by_cases h1 : i ≤ t
      · have h2 : i + 1 ≤ t := by omega
        rw [if_pos h1, if_pos h2]
        obtain ⟨k, hk⟩ : ∃ k, t - i = k + 1 := ⟨t - i - 1, by omega⟩
        rw [hk, show t - (i + 1) = k by omega]
        simp
      · rw [if_neg h1, if_neg (by omega)]

theorem RT_params {args : List FV} {xs : List Value} (hr : RL g w args xs) (n : Nat) : RT g w (params 0 args) ⟨xs.toArray ++ Array.replicate n undef, []⟩ := by
  intro t
  rw [gt_params]
  simp only [Nat.zero_le, if_true, Nat.sub_zero]
  by_cases ht : t < args.length
  · obtain ⟨x, hx, hR⟩ := hr.get t args[t] (by simp [ht])
    have hlt : t < xs.length := by rw [← hr.length]; exact ht
    have : xs[t] = x := by simpa [hlt] using hx
    subst this
    simpa [Array.getD, hlt, ht, Array.getElem_append, show t < xs.length + n by omega] using hR
  · have : args.getD t .undef = .undef := by simp [List.getElem?_eq_none (Nat.le_of_not_lt ht)]
    rw [this]; exact .undef _

theorem readRes_sound (hI : Inv B w0 g h w) (hm : RT g w m a) : ∀ (rs : List ResultVar) (vs : List RV) (out : List FV), okRes P nt rs vs = true → readRes m h vs = some out →
    ∃ xs, (rs.mapM fun (r : ResultVar) => (match r with | .tmp t => pure (a.tmps.getD t undef) | .cell q t => do loadVar t (← asAddr (a.tmps.getD q undef)) : Sem Value)).run P w = .ok xs w ∧ RL g w out xs := by
  intro rs
  induction rs with
  | nil =>
    intro vs out hok hr
    cases vs with
    | nil => simp only [readRes, Option.some.injEq] at hr; subst hr; exact ⟨[], rfl, .nil⟩
    | cons => simp [okRes] at hok
  | cons r rs ih =>
    intro vs out hok hr
    cases vs with
    | nil => cases r <;> simp [okRes] at hok
    | cons q vs =>
      cases r with
      | tmp t =>
        cases q with
        | cell => simp [okRes] at hok
        | t n =>
          simp only [okRes, Bool.and_eq_true, beq_iff_eq] at hok
          obtain ⟨rfl, hok⟩ := hok
          simp only [readRes] at hr
          obtain ⟨o2, k1, k2⟩ := bnd_some hr
          simp only [Option.some.injEq] at k2; subst k2
          obtain ⟨xs, h1, h2⟩ := ih vs o2 hok k1
          refine ⟨a.tmps.getD t undef :: xs, ?_, .cons _ _ _ _ (hm t) h2⟩
          rw [List.mapM_cons]
          simp only [Sem.run_bind, Sem.run_pure, Result.andThen_ok, h1]
      | cell t ty =>
        cases q with
        | t => simp [okRes] at hok
        | cell n ag =>
          simp only [okRes, Bool.and_eq_true, beq_iff_eq] at hok
          obtain ⟨⟨rfl, hag⟩, hok⟩ := hok
          simp only [readRes] at hr
          obtain ⟨v, k0, hr⟩ := bnd_some hr
          obtain ⟨o2, k1, k2⟩ := bnd_some hr
          simp only [Option.some.injEq] at k2; subst k2
          obtain ⟨xs, h1, h2⟩ := ih vs o2 hok k1
          obtain ⟨ad, z, e1, e2, e3⟩ := loadv_sound hI (hm t) hag k0
          refine ⟨z :: xs, ?_, .cons _ _ _ _ e3 h2⟩
          rw [List.mapM_cons]
          have e4 : (asAddr (.pointer (some ad))).run P w = .ok ad w := rfl
          simp only [e1, Sem.run_bind, Sem.run_pure, Result.andThen_ok, h1, e4, e2]

theorem results_sound (hI : Inv B w0 g h w) (hm : RT g w m a) {fn : Func} {vs : List RV} {out : List FV} (hok : okRes P nt fn.results.toList vs = true) (hr : readRes m h vs = some out) :
    ∃ x, (results fn a.tmps).run P w = .ok x w ∧ R g w (result out) x := by
  obtain ⟨xs, h1, h2⟩ := readRes_sound hI hm _ _ _ hok hr
  have h3 : (fn.results.mapM fun (r : ResultVar) => (match r with | .tmp t => pure (a.tmps.getD t undef) | .cell q t => do loadVar t (← asAddr (a.tmps.getD q undef)) : Sem Value)).run P w = .ok xs.toArray w := by
    rw [Array.mapM_eq_mapM_toList]
    simp only [Sem.run_map, h1]
    rfl
  have h4 : results fn a.tmps = (do
      let vs ← fn.results.mapM fun (r : ResultVar) => (match r with | .tmp t => pure (a.tmps.getD t undef) | .cell q t => do loadVar t (← asAddr (a.tmps.getD q undef)) : Sem Value)
      pure (if h : vs.size = 1 then vs[0] else .tuple vs)) := rfl
  rw [h4]
  simp only [Sem.run_bind, h3, Result.andThen_ok, Sem.run_pure]
  refine ⟨_, rfl, ?_⟩
  cases h2 with
  | nil => exact .tup _ _ .nil
  | cons v x vs xs hr1 hs =>
    cases hs with
    | nil => exact hr1
    | cons v2 x2 vs2 xs2 hr2 hs2 =>
      have : ¬ (x :: x2 :: xs2).toArray.size = 1 := by simp
      rw [dif_neg this]
      exact .tup _ _ (.cons _ _ _ _ hr1 (.cons _ _ _ _ hr2 hs2))

/-- A body runs to its end. -/
theorem body_sound {cal : Call} (hcal : CalOk P cal) (hst : Stable cal cm) (hmix : P.follows .mixedOrders = true) {n f : Nat} {d : Fn} (hok : okFn P cm f d = true) {args : List FV} {nx : Nat} {x : Ex × Tm × Heap × Nat} {v : FV} (hnp : args.length = d.np)
    (hr : run cal n [.code d.body] (params 0 args) h nx = some x) (hfin : finish d x = some v) (hf : Fresh h nx) :
    entered P f = true ∧ New h x.2.2.1 nx x.2.2.2 ∧ ∀ B w0 g w xs, Inv B w0 g h w → RL g w args xs →
      Calls P f xs.toArray w fun e w' => ∃ y g', e = .returned y ∧ R g' w' v y ∧ Nx B w0 g g' x.2.2.1 w w' ∧ KNew g g' h x.2.2.1 (fun i => nx ≤ i ∧ i < x.2.2.2) := by
  unfold okFn at hok
  split at hok
  · rename_i fn hfn
    split at hok
    · rename_i c hc
      simp only [Bool.and_eq_true, decide_eq_true_eq, Bool.not_eq_true'] at hok
      obtain ⟨⟨⟨k1, k2⟩, k3⟩, k4⟩ := hok
      obtain ⟨ex, m', h', nx'⟩ := x
      obtain ⟨⟨q1, q3, q4⟩, _⟩ := run_sound (nt := fn.ntmps) (B := 0) (w0 := default) hcal hst hmix n _ _ _ _ _ _ _ _ hr _ nx (.code c d.body [] [] k1 .nil) (fun b c hm => by simp at hm) (Nat.le_refl _) hf
      refine ⟨by simp [entered, hfn, hc, k4], ⟨q1, fun i hi hc => by rcases hc with hc | hc; exact q4 i hc hi; exact q3 i hc⟩, fun B w0 g w xs hI hx => ?_⟩
      obtain ⟨_, q2⟩ := run_sound (nt := fn.ntmps) (B := B) (w0 := w0) hcal hst hmix n _ _ _ _ _ _ _ _ hr _ nx (.code c d.body [] [] k1 .nil) (fun b c hm => by simp at hm) (Nat.le_refl _) hf
      intro cs
      let b : Frame := { (default : Frame) with fn := f, kind := .normal, roundOf := none }
      have hlen := hx.length
      have henter : Frame.enter P f xs.toArray .normal = b.atR ⟨xs.toArray ++ Array.replicate (fn.ntmps - xs.length) undef, []⟩ [.code c] := by
        simp [Frame.enter, Frame.atR, hfn, hc, b]
      obtain ⟨g', a', w', K', r1, r2, r3, r4, r5, r6, r7⟩ := q2 g w ⟨xs.toArray ++ Array.replicate (fn.ntmps - xs.length) undef, []⟩ b cs (RT_params hx _) (by simp; omega) hI
      rw [gcut_fresh hI hf] at r6
      have r7 : KNew g g' h h' (fun i => nx ≤ i ∧ i < nx') := fun i hi hk => by
        by_cases h1 : nx ≤ i
        · have h2 : nx' ≤ i := by
            rcases Nat.lt_or_ge i nx' with h3 | h3
            · exact absurd ⟨h1, h3⟩ hi
            · exact h3
          exact ⟨kNone r6.inv (q3 i h2), by rw [q3 i h2, hf i h1]⟩
        · exact r7 i h1 hk
      have key : (∃ out, readRes m' h' d.res = some out ∧ result out = v) → Steps P (lone (b.atR a' K') cs w') (lone { b.atR a' K' with mode := .returning } cs w') →
          ∃ e w'' fr, (∃ y g', e = .returned y ∧ R g' w'' v y ∧ Nx B w0 g g' h' w w'' ∧ KNew g g' h h' (fun i => nx ≤ i ∧ i < nx')) ∧ Comes P (lone (Frame.enter P f xs.toArray .normal) cs w) (lone fr cs w'') e ∧ fr.fn = f ∧ fr.leaving P w'' e := by
        rintro ⟨out, o1, rfl⟩ hs
        obtain ⟨y, o2, o3⟩ := results_sound r6.inv r3 k3 o1
        refine ⟨.returned y, w', { b.atR a' K' with mode := .returning }, ⟨y, g', rfl, o3, r6, r7⟩, ?_, rfl, rfl, r5, rfl, fn, hfn, o2⟩
        rw [henter]
        exact Steps.trans r1 hs
      cases ex with
      | xt id => simp [finish] at hfin
      | fin =>
        simp only [finish] at hfin
        obtain ⟨out, o1, o2⟩ := bnd_some hfin
        simp only [Option.some.injEq] at o2
        have e : K' = [] := r2
        subst e
        exact key ⟨out, o1, o2⟩ (.one (stepR_end rfl))
      | ret =>
        simp only [finish] at hfin
        obtain ⟨out, o1, o2⟩ := bnd_some hfin
        simp only [Option.some.injEq] at o2
        obtain ⟨k, rfl⟩ := r2
        exact key ⟨out, o1, o2⟩ (.one (stepR_ret rfl))
    · simp at hok
  · simp at hok

/-- A scope of its own begins. -/
theorem Inv.scope (w : World) (Z : Nat → Prop) (hz : ∀ b, Z b → b < w.heap.size) : Inv w.heap.size w ⟨fun _ => none, Z⟩ [] w :=
  ⟨fun id l h => by simp at h, fun id o l h => by simp [hget] at h, fun i j li lj b h => by simp at h, fun i l b h => by simp at h, hz, Below.refl _ _, Nat.le_refl _⟩

/-- ... and ends. -/
theorem Nx.scope (hI : Inv B w0 g h w) (hb : Below w.heap.size w w') : Nx B w0 g ⟨g.κ, zone g.Z w w'⟩ h w w' := by
  have hle : GLe g ⟨g.κ, zone g.Z w w'⟩ w w' := ⟨fun b h => .inl h, fun b h => hb.block b (hI.zlt b h), KLe.refl _⟩
  refine ⟨⟨hI.dom, fun i o l ho hl => ?_, hI.inj, fun i l b hl hbk => ?_, fun b hz => ?_, ?_, Nat.le_trans hI.size hb.size⟩, hle, fun b hz => ?_, hb.size⟩
  · exact (hI.obj i o l ho hl).mono hle fun b hbk => hb.block b (hI.own i l b hl hbk).2.2
  · obtain ⟨h1, h2, h3⟩ := hI.own i l b hl hbk
    refine ⟨h1, fun hz => ?_, Nat.lt_of_lt_of_le h3 hb.size⟩
    rcases hz with hz | hz
    · exact h2 hz
    · omega
  · rcases hz with hz | hz
    · exact Nat.lt_of_lt_of_le (hI.zlt b hz) hb.size
    · exact hz.2
  · exact hI.below.trans (hb.mono hI.size)
  · rcases hz with hz | hz
    · exact .inl hz
    · exact .inr hz.1

theorem isoCall_sound {f : Nat} {args : List FV} {v : FV} (hc : IsoCall P f args v) (hp : pures args = true) (hI : Inv B w0 g h w) {xs : List Value} (hx : RL g w args xs) (nx : Nat) :
    Calls P f xs.toArray w fun e w' => ∃ x g', e = .returned x ∧ R g' w' v x ∧ Nx B w0 g g' h w w' ∧ KNew g g' h h (fun i => nx ≤ i ∧ i < nx) := by
  refine (hc g.Z w xs hI.zlt (RL.pure (g := g) (g2 := ⟨fun _ => none, g.Z⟩) (fun _ h => h) hx hp)).mono ?_
  rintro e w' ⟨x, rfl, hb, hr⟩
  exact ⟨x, ⟨g.κ, zone g.Z w w'⟩, rfl, R.mono (g := ⟨fun _ => none, zone g.Z w w'⟩) (g' := ⟨g.κ, zone g.Z w w'⟩) (w' := w') ⟨fun _ h => h, fun _ _ => rfl, fun id l h => by simp at h⟩ hr, Nx.scope hI hb, fun _ _ h => ⟨h, rfl⟩⟩

theorem enter_iso {cal : Call} (hcal : CalOk P cal) (hst : Stable cal cm) (hmix : P.follows .mixedOrders = true) {n f : Nat} {d : Fn} (hok : okFn P cm f d = true) (hmode : d.mode = .iso) {args : List FV} {nx nx' : Nat} {v : FV}
    (he : enter cal n d args h nx = some (v, h', nx')) : entered P f = true ∧ h' = h ∧ nx' = nx ∧ pures args = true ∧ IsoCall P f args v := by
  unfold enter at he
  obtain ⟨hnp, he⟩ := chk_some he
  rw [hmode] at he
  simp only at he
  obtain ⟨hp, he⟩ := chk_some he
  obtain ⟨x, k1, he⟩ := bnd_some he
  obtain ⟨u, k2, he⟩ := bnd_some he
  obtain ⟨r, k3, he⟩ := bnd_some he
  simp only [Option.some.injEq, Prod.mk.injEq] at he
  obtain ⟨rfl, rfl, rfl⟩ := he
  obtain ⟨q1, q2, q3⟩ := body_sound hcal hst hmix hok hnp k1 k2 (fun i _ => rfl)
  refine ⟨q1, rfl, rfl, hp, fun Z w xs hz hx => ?_⟩
  refine (q3 w.heap.size w ⟨fun _ => none, Z⟩ w xs (Inv.scope w Z hz) hx).mono ?_
  rintro e w' ⟨y, g', rfl, h1, h2, h3⟩
  refine ⟨y, rfl, h2.inv.below, ?_⟩
  refine ((frz_both (g2 := ⟨fun _ => none, zone Z w w'⟩) h2.inv (fun b hb => ?_) (fun i l b hl hbk => ?_) deep).1 u _ k3).val y h1
  · rcases h2.z b hb with h4 | h4
    · exact .inl h4
    · exact .inr ⟨h4, h2.inv.zlt b hb⟩
  · have := h2.inv.own i l b hl hbk
    exact .inr ⟨this.1, this.2.2⟩

theorem enter_isf {cal : Call} (hcal : CalOk P cal) (hst : Stable cal cm) (hmix : P.follows .mixedOrders = true) {n f : Nat} {d : Fn} (hok : okFn P cm f d = true) (hmode : d.mode = .isf) {args : List FV} {nx nx' : Nat} {v : FV}
    (he : enter cal n d args h nx = some (v, h', nx')) : entered P f = true ∧ h' = h ∧ nx' = nx ∧ ∀ B w0 g w xs, Inv B w0 g h w → RL g w args xs →
      Calls P f xs.toArray w fun e w' => ∃ x g', e = .returned x ∧ R g' w' v x ∧ Nx B w0 g g' h w w' ∧ KNew g g' h h (fun i => nx ≤ i ∧ i < nx) := by
  unfold enter at he
  obtain ⟨hnp, he⟩ := chk_some he
  rw [hmode] at he
  simp only at he
  obtain ⟨as, k0, he⟩ := bnd_some he
  obtain ⟨x, k1, he⟩ := bnd_some he
  obtain ⟨u, k2, he⟩ := bnd_some he
  obtain ⟨k3, he⟩ := chk_some he
  simp only [Option.some.injEq, Prod.mk.injEq] at he
  obtain ⟨rfl, rfl, rfl⟩ := he
  have hlen : as.length = args.length := by
    have hI0 : Inv 0 default ⟨fun _ => none, fun _ => False⟩ ([] : Heap) default := ⟨fun id l h => by simp at h, fun id o l h => by simp [hget] at h, fun i j li lj b h => by simp at h, fun i l b h => by simp at h, fun b h => h.elim, Below.refl _ _, Nat.zero_le _⟩
    have : ∀ n (vs rs : List FV), frzs h n vs = some rs → rs.length = vs.length := by
      intro n
      induction n with
      | zero => intro vs rs hf; cases vs with
        | nil => simp only [frzs, Option.some.injEq] at hf; subst hf; rfl
        | cons => simp [frzs] at hf
      | succ n ih => intro vs rs hf; cases vs with
        | nil => simp only [frzs, Option.some.injEq] at hf; subst hf; rfl
        | cons v vs =>
          simp only [frzs] at hf
          obtain ⟨r, _, hf⟩ := bnd_some hf
          obtain ⟨rr, k, hf⟩ := bnd_some hf
          simp only [Option.some.injEq] at hf; subst hf
          simp [ih _ _ k]
    exact this _ _ _ k0
  obtain ⟨q1, q2, q3⟩ := body_sound hcal hst hmix hok (by rw [hlen]; exact hnp) k1 k2 (fun i _ => rfl)
  refine ⟨q1, rfl, rfl, fun B w0 g w xs hI hx => ?_⟩
  have hx2 := ((frz_both (g2 := ⟨fun _ => none, fun b => b < w.heap.size⟩) hI (fun b hb => hI.zlt b hb) (fun i l b hl hbk => (hI.own i l b hl hbk).2.2) deep).2 args as k0).val xs hx
  refine (q3 w.heap.size w ⟨fun _ => none, fun b => b < w.heap.size⟩ w xs (Inv.scope w _ (fun _ h => h)) hx2).mono ?_
  rintro e w' ⟨y, g', rfl, h1, h2, h3⟩
  exact ⟨y, ⟨g.κ, zone g.Z w w'⟩, rfl, h1.flat k3, Nx.scope hI h2.inv.below, fun _ _ h => ⟨h, rfl⟩⟩

theorem stable_call (T : Tab) (n : Nat) : Stable (call T n) (cmOf T) := by
  intro f hf args h nx v h1 nx1 hc
  cases n with
  | zero => simp [call] at hc
  | succ n =>
    simp only [call] at hc ⊢
    cases hT : tget T f with
    | none => rw [hT] at hc; simp at hc
    | some q =>
      rw [hT] at hc
      cases q with
      | ext gg =>
        simp only at hc ⊢
        obtain ⟨k1, hc⟩ := chk_some hc
        obtain ⟨u, k2, hc⟩ := bnd_some hc
        obtain ⟨k3, hc⟩ := chk_some hc
        simp only [Option.some.injEq, Prod.mk.injEq] at hc
        obtain ⟨rfl, rfl, rfl⟩ := hc
        refine ⟨rfl, rfl, fun h' nx' _ => ?_⟩
        simp [chk, bnd, k1, k2, k3]
      | fn d =>
        simp only at hc ⊢
        simp only [enter] at hc ⊢
        obtain ⟨hnp, hc⟩ := chk_some hc
        cases hm : d.mode with
        | shr => simp [cmOf, hT, hm] at hf
        | iso =>
          rw [hm] at hc
          simp only at hc
          obtain ⟨k1, hc⟩ := chk_some hc
          obtain ⟨x, k2, hc⟩ := bnd_some hc
          obtain ⟨u, k3, hc⟩ := bnd_some hc
          obtain ⟨r, k4, hc⟩ := bnd_some hc
          simp only [Option.some.injEq, Prod.mk.injEq] at hc
          obtain ⟨rfl, rfl, rfl⟩ := hc
          exact ⟨rfl, rfl, fun h' nx' _ => by simp [chk, bnd, hnp, k1, k2, k3, k4]⟩
        | isf =>
          rw [hm] at hc
          simp only at hc
          obtain ⟨as, k1, hc⟩ := bnd_some hc
          obtain ⟨x, k2, hc⟩ := bnd_some hc
          obtain ⟨u, k3, hc⟩ := bnd_some hc
          obtain ⟨k4, hc⟩ := chk_some hc
          simp only [Option.some.injEq, Prod.mk.injEq] at hc
          obtain ⟨rfl, rfl, rfl⟩ := hc
          refine ⟨rfl, rfl, fun h' nx' hs => ?_⟩
          have hs := hs.resolve_left (by simp [cmOf, hT, hm])
          simp [chk, bnd, hnp, (frz_sub hs deep).2 _ _ k1, k2, k3, k4]

theorem calOk_call {T : Tab} (hT : TabOk P T) : ∀ n, CalOk P (call T n) := by
  intro n
  induction n with
  | zero => intro f args h nx v h' nx' hc; simp [call] at hc
  | succ n ih =>
    intro f args h nx v h' nx' hc
    simp only [call] at hc
    cases ht : tget T f with
    | none => rw [ht] at hc; simp at hc
    | some q =>
      rw [ht] at hc
      cases q with
      | ext gg =>
        simp only at hc
        obtain ⟨k1, hc⟩ := chk_some hc
        obtain ⟨u, k2, hc⟩ := bnd_some hc
        obtain ⟨k3, hc⟩ := chk_some hc
        simp only [Option.some.injEq, Prod.mk.injEq] at hc
        obtain ⟨rfl, rfl, rfl⟩ := hc
        obtain ⟨e1, e2⟩ := hT.ext f gg ht
        exact ⟨e1, fun _ => .refl _ _, fun B w0 g w xs hI hx _ => isoCall_sound (e2 args _ k1 k2) k1 hI hx nx⟩
      | fn d =>
        simp only at hc
        have hok := hT.fn f d ht
        have hst := stable_call T n
        cases hm : d.mode with
        | iso =>
          obtain ⟨e1, rfl, rfl, e2, e3⟩ := enter_iso ih hst hT.mix hok hm hc
          exact ⟨e1, fun _ => .refl _ _, fun B w0 g w xs hI hx _ => isoCall_sound e3 e2 hI hx _⟩
        | isf =>
          obtain ⟨e1, rfl, rfl, e3⟩ := enter_isf ih hst hT.mix hok hm hc
          exact ⟨e1, fun _ => .refl _ _, fun B w0 g w xs hI hx _ => e3 B w0 g w xs hI hx⟩
        | shr =>
          unfold enter at hc
          obtain ⟨hnp, hc⟩ := chk_some hc
          rw [hm] at hc
          simp only at hc
          obtain ⟨x, k1, hc⟩ := bnd_some hc
          obtain ⟨u, k2, hc⟩ := bnd_some hc
          simp only [Option.some.injEq, Prod.mk.injEq] at hc
          obtain ⟨rfl, rfl, rfl⟩ := hc
          have entry : entered P f = true := by
            unfold okFn at hok
            unfold entered
            split at hok
            · rename_i fn hfn
              cases hb : fn.body with
              | none => rw [hb] at hok; simp at hok
              | some c =>
                rw [hb] at hok
                simp only [Bool.and_eq_true, Bool.not_eq_true'] at hok
                simp only [hfn, hb, Option.isSome, Bool.true_and, hok.2, Bool.not_false]
            · simp at hok
          exact ⟨entry, fun hf => (body_sound ih hst hT.mix hok hnp k1 k2 hf).2.1, fun B w0 g w xs hI hx hf => (body_sound ih hst hT.mix hok hnp k1 k2 hf).2.2 B w0 g w xs hI hx⟩

end
end Go.FI
