/- The interpreter without a bound on its steps. -/
import Derived.Test.YthjgmhpgplhkgaaFICall
set_option linter.unusedSimpArgs false
set_option linter.unusedVariables false
namespace Go.FI
open Go.RowKit

def Le (c c' : Call) : Prop := ∀ f a h nx r, c f a h nx = some r → c' f a h nx = some r

theorem bnd_mk {α β : Type} {x : Option α} {f : α → Option β} {a : α} {r : β} (h : x = some a) (k : f a = some r) : bnd x f = some r := by rw [h]; exact k

theorem opg_le {c c' : Call} (hc : Le c c') {id : Nat} {g : G} {m : Tm} {h : Heap} {nx : Nat} {r : FV × Heap × Nat} (hr : opg c id g m h nx = some r) : opg c' id g m h nx = some r := by
  obtain ⟨d, gd, o, re⟩ := g
  cases o
  case cl f xs => exact hc _ _ _ _ _ hr
  case cw f xs =>
    simp only [opg] at hr ⊢
    split at hr
    · exact hc _ _ _ _ _ hr
    · simp at hr
  all_goals exact hr

theorem rechk_map {α : Type} {h : Heap} {m : Tm} {x y : Option α} (hxy : ∀ r, x = some r → y = some r) : ∀ (l : List (Option (Nat × Bool) × Option Nat × Nat × Nat)) (r : α), rechk h m x l = some r → rechk h m y l = some r := by
  intro l
  induction l with
  | nil => exact hxy
  | cons p l ih =>
    obtain ⟨gd, ag, n, d⟩ := p
    intro r hr
    simp only [rechk] at hr ⊢
    obtain ⟨b, h1, h2⟩ := bnd_some hr
    refine bnd_mk h1 ?_
    cases b with
    | true =>
      simp only [if_true] at h2 ⊢
      obtain ⟨h3, h4⟩ := chk_some h2
      unfold chk
      rw [if_pos h3]
      exact ih r h4
    | false =>
      simp only [Bool.false_eq_true, if_false] at h2 ⊢
      exact ih r h2

theorem rops_le {c c' : Call} (hc : Le c c') : ∀ (gs : List G) (id : Nat) (m : Tm) (h : Heap) (nx : Nat) (r : Tm × Heap × Nat), rops c id gs m h nx = some r → rops c' id gs m h nx = some r := by
  intro gs
  induction gs with
  | nil => intro id m h nx r hr; exact hr
  | cons g gs ih =>
    intro id m h nx r hr
    simp only [rops] at hr ⊢
    obtain ⟨b, h1, h2⟩ := bnd_some hr
    refine bnd_mk h1 ?_
    split at h2
    · rename_i hb
      rw [if_pos hb]
      obtain ⟨x, h3, h4⟩ := bnd_some h2
      exact bnd_mk (opg_le hc h3) (rechk_map (fun r hr => ih _ _ _ _ r hr) _ _ h4)
    · rename_i hb
      rw [if_neg hb]
      exact ih _ _ _ _ _ h2

theorem run_le {c c' : Call} (hc : Le c c') : ∀ (n n' : Nat), n ≤ n' → ∀ (l : List I) (m : Tm) (h : Heap) (nx : Nat) (r : Ex × Tm × Heap × Nat), run c n l m h nx = some r → run c' n' l m h nx = some r := by
  intro n
  induction n with
  | zero => intro n' _ l m h nx r hr; simp [run] at hr
  | succ n ih =>
    intro n' hn l m h nx r hr
    obtain ⟨k, rfl⟩ : ∃ k, n' = k + 1 := ⟨n' - 1, by omega⟩
    have ih := ih k (by omega)
    cases l with
    | nil => simpa only [run] using hr
    | cons i l =>
      cases i with
      | inB id => simp only [run] at hr ⊢; exact ih _ _ _ _ _ hr
      | inL t c =>
        cases t with
        | none => simp only [run] at hr ⊢; exact ih _ _ _ _ _ hr
        | some b =>
          simp only [run] at hr ⊢
          obtain ⟨h1, h2⟩ := chk_some hr
          unfold chk
          rw [if_pos h1]
          exact ih _ _ _ _ _ h2
      | code c =>
        cases c with
        | sk => simp only [run] at hr ⊢; exact ih _ _ _ _ _ hr
        | rg d gs keep =>
          simp only [run] at hr ⊢
          obtain ⟨x, h1, h2⟩ := bnd_some hr
          exact bnd_mk (rops_le hc _ _ _ _ _ _ h1) (ih _ _ _ _ _ h2)
        | sq a b => simp only [run] at hr ⊢; exact ih _ _ _ _ _ hr
        | cd x a b =>
          simp only [run] at hr ⊢
          split at hr
          · split at hr
            · rename_i hb; rw [if_pos hb]; exact ih _ _ _ _ _ hr
            · rename_i hb; rw [if_neg hb]; exact ih _ _ _ _ _ hr
          · simp at hr
        | bl id c => simp only [run] at hr ⊢; exact ih _ _ _ _ _ hr
        | lp t c => simp only [run] at hr ⊢; exact ih _ _ _ _ _ hr
        | xt id =>
          simp only [run] at hr ⊢
          split at hr
          · exact ih _ _ _ _ _ hr
          · exact hr
        | rt => simpa only [run] using hr

/-- A function's frame round a run. -/
def enterWith (rn : List I → Tm → Heap → Nat → Option (Ex × Tm × Heap × Nat)) (f : Fn) (args : List FV) (h : Heap) (nx : Nat) : Option (FV × Heap × Nat) :=
  chk (args.length = f.np) <| match f.mode with
  | .iso => chk (pures args = true) <| bnd (rn [.code f.body] (params 0 args) [] 0) fun x =>
      bnd (finish f x) fun v => bnd (frz x.2.2.1 deep v) fun r => some (r, h, nx)
  | .isf => bnd (frzs h deep args) fun as => bnd (rn [.code f.body] (params 0 as) [] 0) fun x =>
      bnd (finish f x) fun v => chk (flat v = true) (some (v, h, nx))
  | .shr => bnd (rn [.code f.body] (params 0 args) h nx) fun x =>
      bnd (finish f x) fun v => some (v, x.2.2.1, x.2.2.2)

theorem enter_eq (cal : Call) (n : Nat) (f : Fn) (args : List FV) (h : Heap) (nx : Nat) : enter cal n f args h nx = enterWith (run cal n) f args h nx := rfl

theorem enterWith_map {rn rn' : List I → Tm → Heap → Nat → Option (Ex × Tm × Heap × Nat)} {f : Fn} (hr : ∀ m h nx x, rn [.code f.body] m h nx = some x → rn' [.code f.body] m h nx = some x) {args : List FV} {h : Heap} {nx : Nat} {r : FV × Heap × Nat}
    (he : enterWith rn f args h nx = some r) : enterWith rn' f args h nx = some r := by
  unfold enterWith at he ⊢
  obtain ⟨h1, he⟩ := chk_some he
  rw [chk, if_pos h1]
  cases hm : f.mode with
  | iso =>
    rw [hm] at he
    simp only at he ⊢
    obtain ⟨h2, he⟩ := chk_some he
    rw [chk, if_pos h2]
    obtain ⟨x, h3, he⟩ := bnd_some he
    exact bnd_mk (hr _ _ _ _ h3) he
  | isf =>
    rw [hm] at he
    simp only at he ⊢
    obtain ⟨as, h2, he⟩ := bnd_some he
    obtain ⟨x, h3, he⟩ := bnd_some he
    exact bnd_mk h2 (bnd_mk (hr _ _ _ _ h3) he)
  | shr =>
    rw [hm] at he
    simp only at he ⊢
    obtain ⟨x, h3, he⟩ := bnd_some he
    exact bnd_mk (hr _ _ _ _ h3) he

theorem call_le (T : Tab) : ∀ n n', n ≤ n' → Le (call T n) (call T n') := by
  intro n
  induction n with
  | zero => intro n' _ f a h nx r hr; simp [call] at hr
  | succ n ih =>
    intro n' hn f a h nx r hr
    obtain ⟨k, rfl⟩ : ∃ k, n' = k + 1 := ⟨n' - 1, by omega⟩
    simp only [call] at hr ⊢
    split at hr
    · rw [enter_eq] at hr ⊢
      exact enterWith_map (fun m h nx x hx => run_le (ih k (by omega)) n k (by omega) _ _ _ _ _ hx) hr
    · exact hr
    · simp at hr

open Classical in
noncomputable def sup {α : Type} (F : Nat → Option α) : Option α := if h : ∃ n r, F n = some r then F h.choose else none

theorem sup_some {α : Type} {F : Nat → Option α} (hm : ∀ n n' r, n ≤ n' → F n = some r → F n' = some r) (r : α) : sup F = some r ↔ ∃ n, F n = some r := by
  unfold sup
  constructor
  · intro h
    split at h
    · exact ⟨_, h⟩
    · cases h
  · rintro ⟨n, hn⟩
    have h : ∃ n r, F n = some r := ⟨n, r, hn⟩
    rw [dif_pos h]
    obtain ⟨q, hq⟩ := h.choose_spec
    rw [hq]
    have h1 := hm _ (max n h.choose) r (by omega) hn
    have h2 := hm _ (max n h.choose) q (by omega) hq
    rw [h1] at h2; cases h2; rfl

/-- The call of a function, without a bound. -/
noncomputable def lim (T : Tab) : Call := fun f a h nx => sup fun n => call T n f a h nx
noncomputable def runs (T : Tab) (l : List I) (m : Tm) (h : Heap) (nx : Nat) : Option (Ex × Tm × Heap × Nat) := sup fun n => run (lim T) n l m h nx

theorem lim_some {T : Tab} {f : Nat} {a : List FV} {h : Heap} {nx : Nat} {r : FV × Heap × Nat} : lim T f a h nx = some r ↔ ∃ n, call T n f a h nx = some r :=
  sup_some (fun n n' r hn hr => call_le T n n' hn _ _ _ _ _ hr) r

theorem le_lim (T : Tab) (n : Nat) : Le (call T n) (lim T) := fun _ _ _ _ _ hr => lim_some.2 ⟨n, hr⟩

theorem runs_some {T : Tab} {l : List I} {m : Tm} {h : Heap} {nx : Nat} {r : Ex × Tm × Heap × Nat} : runs T l m h nx = some r ↔ ∃ n, run (lim T) n l m h nx = some r :=
  sup_some (fun n n' r hn hr => run_le (fun _ _ _ _ _ h => h) n n' hn _ _ _ _ _ hr) r

theorem opg_cont {T : Tab} {id : Nat} {g : G} {m : Tm} {h : Heap} {nx : Nat} {r : FV × Heap × Nat} (hr : opg (lim T) id g m h nx = some r) : ∃ k, opg (call T k) id g m h nx = some r := by
  obtain ⟨d, gd, o, re⟩ := g
  cases o
  case cl f xs => exact lim_some.1 hr
  case cw f xs =>
    simp only [opg] at hr ⊢
    split at hr
    · exact lim_some.1 hr
    · simp at hr
  all_goals exact ⟨0, hr⟩

theorem rops_cont {T : Tab} : ∀ (gs : List G) (id : Nat) (m : Tm) (h : Heap) (nx : Nat) (r : Tm × Heap × Nat), rops (lim T) id gs m h nx = some r → ∃ k, rops (call T k) id gs m h nx = some r := by
  intro gs
  induction gs with
  | nil => intro id m h nx r hr; exact ⟨0, hr⟩
  | cons g gs ih =>
    intro id m h nx r hr
    simp only [rops] at hr
    obtain ⟨b, h1, h2⟩ := bnd_some hr
    split at h2
    · rename_i hb
      obtain ⟨x, h3, h4⟩ := bnd_some h2
      obtain ⟨k1, hk1⟩ := opg_cont h3
      obtain ⟨h5, _⟩ := rechk_some h4
      obtain ⟨k2, hk2⟩ := ih _ _ _ _ _ h5
      refine ⟨max k1 k2, ?_⟩
      simp only [rops]
      refine bnd_mk h1 ?_
      rw [if_pos hb]
      refine bnd_mk (opg_le (call_le T k1 _ (by omega)) hk1) (rechk_map (fun q hq => ?_) _ _ h4)
      rw [h5] at hq; cases hq
      exact rops_le (call_le T k2 _ (by omega)) _ _ _ _ _ _ hk2
    · rename_i hb
      obtain ⟨k, hk⟩ := ih _ _ _ _ _ h2
      refine ⟨k, ?_⟩
      simp only [rops]
      refine bnd_mk h1 ?_
      rw [if_neg hb]
      exact hk

theorem run_cont {T : Tab} : ∀ (n : Nat) (l : List I) (m : Tm) (h : Heap) (nx : Nat) (r : Ex × Tm × Heap × Nat), run (lim T) n l m h nx = some r → ∃ k, n ≤ k ∧ run (call T k) k l m h nx = some r := by
  intro n
  induction n with
  | zero => intro l m h nx r hr; simp [run] at hr
  | succ n ih =>
    intro l m h nx r hr
    have up : ∀ {l m h nx}, run (lim T) n l m h nx = some r → ∃ k, n + 1 ≤ k + 1 ∧ run (call T (k + 1)) k l m h nx = some r := fun hr => by
      obtain ⟨k, h1, h2⟩ := ih _ _ _ _ _ hr
      exact ⟨k, by omega, run_le (call_le T k _ (by omega)) k k (Nat.le_refl _) _ _ _ _ _ h2⟩
    cases l with
    | nil => exact ⟨n + 1, Nat.le_refl _, by simpa only [run] using hr⟩
    | cons i l =>
      cases i with
      | inB id => simp only [run] at hr; obtain ⟨k, h1, h2⟩ := up hr; exact ⟨k + 1, h1, by simpa only [run] using h2⟩
      | inL t c =>
        cases t with
        | none => simp only [run] at hr; obtain ⟨k, h1, h2⟩ := up hr; exact ⟨k + 1, h1, by simpa only [run] using h2⟩
        | some b =>
          simp only [run] at hr
          obtain ⟨h0, hr⟩ := chk_some hr
          obtain ⟨k, h1, h2⟩ := up hr
          refine ⟨k + 1, h1, ?_⟩
          simp only [run]
          rw [chk, if_pos h0]; exact h2
      | code c =>
        cases c with
        | sk => simp only [run] at hr; obtain ⟨k, h1, h2⟩ := up hr; exact ⟨k + 1, h1, by simpa only [run] using h2⟩
        | rg d gs keep =>
          simp only [run] at hr
          obtain ⟨x, h3, hr⟩ := bnd_some hr
          obtain ⟨k1, hk1⟩ := rops_cont _ _ _ _ _ _ h3
          obtain ⟨k2, h1, h2⟩ := ih _ _ _ _ _ hr
          refine ⟨max k1 k2 + 1, by omega, ?_⟩
          simp only [run]
          exact bnd_mk (rops_le (call_le T k1 _ (by omega)) _ _ _ _ _ _ hk1) (run_le (call_le T k2 _ (by omega)) k2 _ (by omega) _ _ _ _ _ h2)
        | sq a b => simp only [run] at hr; obtain ⟨k, h1, h2⟩ := up hr; exact ⟨k + 1, h1, by simpa only [run] using h2⟩
        | cd x a b =>
          simp only [run] at hr
          split at hr
          · rename_i b' hx
            split at hr
            · rename_i hb; obtain ⟨k, h1, h2⟩ := up hr; exact ⟨k + 1, h1, by simp only [run, hx]; rw [if_pos hb]; exact h2⟩
            · rename_i hb; obtain ⟨k, h1, h2⟩ := up hr; exact ⟨k + 1, h1, by simp only [run, hx]; rw [if_neg hb]; exact h2⟩
          · simp at hr
        | bl id c => simp only [run] at hr; obtain ⟨k, h1, h2⟩ := up hr; exact ⟨k + 1, h1, by simpa only [run] using h2⟩
        | lp t c => simp only [run] at hr; obtain ⟨k, h1, h2⟩ := up hr; exact ⟨k + 1, h1, by simpa only [run] using h2⟩
        | xt id =>
          simp only [run] at hr
          split at hr
          · rename_i hx; obtain ⟨k, h1, h2⟩ := up hr; exact ⟨k + 1, h1, by simp only [run, hx]; exact h2⟩
          · rename_i hx; exact ⟨n + 1, Nat.le_refl _, by simp only [run, hx]; exact hr⟩
        | rt => exact ⟨n + 1, Nat.le_refl _, by simpa only [run] using hr⟩

theorem lim_fn {T : Tab} {f : Nat} {d : Fn} (ht : tget T f = some (.fn d)) (args : List FV) (h : Heap) (nx : Nat) : lim T f args h nx = enterWith (runs T) d args h nx := by
  apply Option.ext
  intro r
  rw [lim_some]
  constructor
  · rintro ⟨n, hn⟩
    cases n with
    | zero => simp [call] at hn
    | succ n =>
      simp only [call, ht] at hn
      rw [enter_eq] at hn
      exact enterWith_map (fun m h nx x hx => runs_some.2 ⟨n, run_le (le_lim T n) n n (Nat.le_refl _) _ _ _ _ _ hx⟩) hn
  · intro hr
    -- the run inside is one run
    have key : ∃ k, enterWith (fun l m h nx => run (call T k) k l m h nx) d args h nx = some r := by
      unfold enterWith at hr ⊢
      obtain ⟨h1, hr⟩ := chk_some hr
      simp only [chk, if_pos h1]
      cases hm : d.mode with
      | iso =>
        rw [hm] at hr
        simp only at hr ⊢
        obtain ⟨h2, hr⟩ := chk_some hr
        obtain ⟨x, h3, hr⟩ := bnd_some hr
        obtain ⟨n, h4⟩ := runs_some.1 h3
        obtain ⟨k, _, h5⟩ := run_cont n _ _ _ _ _ h4
        exact ⟨k, by rw [if_pos h2]; exact bnd_mk h5 hr⟩
      | isf =>
        rw [hm] at hr
        simp only at hr ⊢
        obtain ⟨as, h2, hr⟩ := bnd_some hr
        obtain ⟨x, h3, hr⟩ := bnd_some hr
        obtain ⟨n, h4⟩ := runs_some.1 h3
        obtain ⟨k, _, h5⟩ := run_cont n _ _ _ _ _ h4
        exact ⟨k, bnd_mk h2 (bnd_mk h5 hr)⟩
      | shr =>
        rw [hm] at hr
        simp only at hr ⊢
        obtain ⟨x, h3, hr⟩ := bnd_some hr
        obtain ⟨n, h4⟩ := runs_some.1 h3
        obtain ⟨k, _, h5⟩ := run_cont n _ _ _ _ _ h4
        exact ⟨k, bnd_mk h5 hr⟩
    obtain ⟨k, hk⟩ := key
    refine ⟨k + 1, ?_⟩
    simp only [call, ht]
    rw [enter_eq]
    exact hk

/-! ### the equations -/
section
variable {T : Tab} {k : List I} {m : Tm} {h : Heap} {nx : Nat}

theorem runs_step {l l' : List I} {m' : Tm} {h' : Heap} {nx' : Nat} (hs : ∀ n, run (lim T) (n + 1) l m h nx = run (lim T) n l' m' h' nx') : runs T l m h nx = runs T l' m' h' nx' := by
  apply Option.ext
  intro r
  rw [runs_some, runs_some]
  constructor
  · rintro ⟨n, hn⟩
    cases n with
    | zero => simp [run] at hn
    | succ n => rw [hs] at hn; exact ⟨n, hn⟩
  · rintro ⟨n, hn⟩
    exact ⟨n + 1, by rw [hs]; exact hn⟩

theorem runs_end {l : List I} {r : Ex × Tm × Heap × Nat} (hs : ∀ n, run (lim T) (n + 1) l m h nx = some r) : runs T l m h nx = some r := runs_some.2 ⟨1, hs 0⟩

theorem runs_nil : runs T [] m h nx = some (.fin, m, h, nx) := runs_end fun n => by simp only [run]
theorem runs_rt : runs T (.code .rt :: k) m h nx = some (.ret, m, h, nx) := runs_end fun n => by simp only [run]
theorem runs_sk : runs T (.code .sk :: k) m h nx = runs T k m h nx := runs_step fun n => by simp only [run]
theorem runs_inB {id : Nat} : runs T (.inB id :: k) m h nx = runs T k m h nx := runs_step fun n => by simp only [run]
theorem runs_sq {a b : C} : runs T (.code (.sq a b) :: k) m h nx = runs T (.code a :: .code b :: k) m h nx := runs_step fun n => by simp only [run]
theorem runs_bl {id : Nat} {c : C} : runs T (.code (.bl id c) :: k) m h nx = runs T (.code c :: .inB id :: k) m h nx := runs_step fun n => by simp only [run]
theorem runs_lp {t : Bool} {c : C} : runs T (.code (.lp t c) :: k) m h nx = runs T (.code c :: .inL (if t = true then some nx else none) c :: k) m h nx := runs_step fun n => by simp only [run]
theorem runs_inL0 {c : C} : runs T (.inL none c :: k) m h nx = runs T (.code c :: .inL none c :: k) m h nx := runs_step fun n => by simp only [run]
theorem runs_inL {b : Nat} {c : C} : runs T (.inL (some b) c :: k) m h nx = chk (b ≤ nx ∧ lowTm b m = true ∧ lowHeap b (cutH b h) = true) (runs T (.code c :: .inL (some b) c :: k) m (cutH b h) b) := by
  unfold chk
  split
  · rename_i hc
    exact runs_step fun n => by simp only [run, chk, if_pos hc]
  · rename_i hc
    apply Option.ext
    intro r
    rw [runs_some]
    constructor
    · rintro ⟨n, hn⟩
      cases n with
      | zero => simp [run] at hn
      | succ n => simp only [run, chk, if_neg hc] at hn; cases hn
    · intro hh; cases hh
theorem runs_cd {x : X} {a b : C} : runs T (.code (.cd x a b) :: k) m h nx = (match ev m x with | .bool t => if t = true then runs T (.code a :: k) m h nx else runs T (.code b :: k) m h nx | _ => none) := by
  split
  · rename_i t hx
    split
    · rename_i ht; exact runs_step fun n => by simp only [run, hx]; rw [if_pos ht]
    · rename_i ht; exact runs_step fun n => by simp only [run, hx]; rw [if_neg ht]
  · rename_i hx
    apply Option.ext
    intro r
    rw [runs_some]
    constructor
    · rintro ⟨n, hn⟩
      cases n with
      | zero => simp [run] at hn
      | succ n =>
        simp only [run] at hn
        cases hn
    · intro hh; cases hh
theorem runs_xt {id : Nat} : runs T (.code (.xt id) :: k) m h nx = (match exitTo id k with | some k' => runs T k' m h nx | none => some (.xt id, m, h, nx)) := by
  split
  · rename_i k' hx; exact runs_step fun n => by simp only [run, hx]
  · rename_i hx; exact runs_end fun n => by simp only [run, hx]
theorem runs_rg {d : Option (List Nat)} {gs : List G} {keep : List Nat} : runs T (.code (.rg d gs keep) :: k) m h nx = bnd (rops (lim T) nx gs m h (nx + gs.length)) fun x => runs T k (keepOf x.1 keep) x.2.1 x.2.2 := by
  cases hr : rops (lim T) nx gs m h (nx + gs.length) with
  | none =>
    apply Option.ext
    intro r
    rw [runs_some]
    constructor
    · rintro ⟨n, hn⟩
      cases n with
      | zero => simp [run] at hn
      | succ n => simp only [run, hr, bnd] at hn; cases hn
    · intro hh; cases hh
  | some x => exact runs_step fun n => by simp only [run, hr, bnd]
end

theorem frz_pure {h : Heap} {n : Nat} {v : FV} (hp : pure_ v = true) : frz h n v = some v := by
  cases n <;> simp [frz, hp]

/-- What a row needs of a function on values. -/
theorem isoCall_of_lim {P : Program} {T : Tab} (hT : TabOk P T) {f : Nat} {d : Fn} (ht : tget T f = some (.fn d)) (hm : d.mode = .iso) {args : List FV} {v : FV} {h h' : Heap} {nx nx' : Nat} (hl : lim T f args h nx = some (v, h', nx')) : IsoCall P f args v := by
  obtain ⟨n, hn⟩ := lim_some.1 hl
  cases n with
  | zero => simp [call] at hn
  | succ n =>
    simp only [call, ht] at hn
    exact (enter_iso (calOk_call hT n) (stable_call T n) hT.mix (hT.fn f d ht) hm hn).2.2.2.2

end Go.FI
