/- Calls that are known. -/
import Derived.Test.YtkobnfjeehnhlaaGreatDoorFIChunk
set_option linter.all false
set_option linter.unusedSimpArgs false
set_option linter.unusedVariables false
set_option linter.unusedSectionVars false
namespace Go.FI

def eqEn : List (FV × FV) → List (FV × FV) → Bool
  | [], [] => true
  | a :: r, b :: q => eqv a.1 b.1 && eqv a.2 b.2 && eqEn r q
  | _, _ => false
theorem eqEn_eq : ∀ {a b : List (FV × FV)}, eqEn a b = true → a = b
  | [], [], _ => rfl
  | (a, b) :: r, (c, d) :: q, h => by
    simp only [eqEn, Bool.and_eq_true] at h
    rw [eqv_eq h.1.1, eqv_eq h.1.2, eqEn_eq h.2]
  | [], _ :: _, h => by cases h
  | _ :: _, [], h => by cases h
def eqO : Obj → Obj → Bool
  | .mp a, .mp b | .fmp a, .fmp b => eqEn a b
  | .row a b, .row c d | .fro a b, .fro c d => match a == c with
    | true => eqvs b d
    | false => false
  | .lp a b, .lp c d => a == c && b == d
  | .mit, .mit => true
  | _, _ => false
def eqH : Heap → Heap → Bool
  | [], [] => true
  | a :: r, b :: q => match a.1 == b.1 with
    | true => match eqO a.2 b.2 with
      | true => eqH r q
      | false => false
    | false => false
  | _, _ => false
theorem eqO_eq {a b : Obj} (h : eqO a b = true) : a = b := by
  unfold eqO at h
  split at h
  · rw [eqEn_eq h]
  · rw [eqEn_eq h]
  · split at h
    · rename_i e; rw [eq_of_beq e, eqvs_eq h]
    · cases h
  · split at h
    · rename_i e; rw [eq_of_beq e, eqvs_eq h]
    · cases h
  · simp only [Bool.and_eq_true] at h; rw [eq_of_beq h.1, eq_of_beq h.2]
  · rfl
  · cases h
theorem eqH_eq : ∀ {a b : Heap}, eqH a b = true → a = b
  | [], [], _ => rfl
  | (i, a) :: r, (j, b) :: q, h => by
    simp only [eqH] at h
    split at h
    · rename_i e1
      split at h
      · rename_i e2
        rw [eq_of_beq e1, eqO_eq e2, eqH_eq h]
      · cases h
    · cases h
  | [], _ :: _, h => by cases h
  | _ :: _, [], h => by cases h

/-- What is known of a call: on any heap, or on one. -/
structure Kn where
  f : Nat
  as_ : List FV
  at_ : Option (Heap × Nat × Heap × Nat)
  v : FV
abbrev Known := List Kn

def look1 (e : Kn) (f : Nat) (a : List FV) (h : Heap) (nx : Nat) : Option (FV × Heap × Nat) :=
  match e.f == f with
  | false => none
  | true => match e.at_ with
    | none => match eqvs e.as_ a with
      | true => some (e.v, h, nx)
      | false => none
    | some z => match z.2.1 == nx with
      | false => none
      | true => match eqvs e.as_ a with
        | false => none
        | true => match eqH z.1 h with
          | true => some (e.v, z.2.2.1, z.2.2.2)
          | false => none

def look : Known → Nat → List FV → Heap → Nat → Option (FV × Heap × Nat)
  | [], _, _, _, _ => none
  | e :: r, f, a, h, nx => match look1 e f a h nx with
    | some x => some x
    | none => look r f a h nx

/-- A call, some being known. -/
def callW (T : Tab) (W : Known) : Nat → Call
  | 0, _, _, _, _ => none
  | n + 1, f, args, h, nx =>
    match look W f args h nx with
    | some r => some r
    | none => match tget T f with
      | some (.fn d) => chk (f < RB) (enter (callW T W n) n d args h nx)
      | some (.ct c) => chk (f < RB) (enterC (callW T W n) n c args h nx)
      | some (.mr d) => chk (f < RB) (enterM (rops (np (callW T W n))) (run (callW T W n) n) d args h nx)
      | some (.rd d) => chk (RB ≤ f) (round (callW T W n) n d args h nx)
      | some (.ext g) => chk (f < RB) (bnd (frzs h deep args) fun as' => bnd (g as') fun v => chk (flat v = true) (some (v, h, nx)))
      | none => none

def Good (T : Tab) (W : Known) : Prop := ∃ N, ∀ f a h nx r, look W f a h nx = some r → call T N f a h nx = some r

theorem good_nil {T : Tab} : Good T [] := ⟨0, fun _ _ _ _ _ h => by simp [look] at h⟩

theorem callW_call {T : Tab} {W : Known} (hW : Good T W) : ∀ n, ∃ N, Le (callW T W n) (call T N) := by
  intro n
  induction n with
  | zero => exact ⟨0, fun f a h nx r hr => by simp [callW] at hr⟩
  | succ n ih =>
    obtain ⟨N0, h0⟩ := hW
    obtain ⟨N1, h1⟩ := ih
    have hle : Le (callW T W n) (call T (N0 + N1 + n)) := fun f a h nx r hr => call_le T N1 _ (by omega) _ _ _ _ _ (h1 _ _ _ _ _ hr)
    refine ⟨N0 + N1 + n + 1, fun f a h nx r hr => ?_⟩
    simp only [callW] at hr
    split at hr
    · rename_i v hv
      cases hr
      exact call_le T N0 _ (by omega) _ _ _ _ _ (h0 _ _ _ _ _ hv)
    · split at hr
      · rename_i d ht
        simp only [call, ht]
        obtain ⟨h1, hr⟩ := chk_some hr
        rw [chk, if_pos h1]
        rw [enter_eq] at hr ⊢
        exact enterWith_map (fun m h nx x hx => run_le hle n _ (by omega) _ _ _ _ _ hx) hr
      · rename_i d ht
        simp only [call, ht]
        obtain ⟨h1, hr⟩ := chk_some hr
        rw [chk, if_pos h1]
        rw [catch_eq] at hr ⊢
        exact catchWith_map (fun x hx => rops_le (np_le hle) _ _ _ _ _ _ hx) (fun l m h nx x hx => run_le hle n _ (by omega) _ _ _ _ _ hx) hr
      · rename_i d ht
        simp only [call, ht]
        obtain ⟨h1, hr⟩ := chk_some hr
        rw [chk, if_pos h1]
        exact enterM_map (fun i l m h nx x hx => rops_le (np_le hle) _ _ _ _ _ _ hx) (fun l m h nx x hx => run_le hle n _ (by omega) _ _ _ _ _ hx) hr
      · rename_i d ht
        simp only [call, ht]
        obtain ⟨h1, hr⟩ := chk_some hr
        rw [chk, if_pos h1]
        rw [round_eq] at hr ⊢
        exact roundWith_map (fun l m h nx x hx => run_le hle n _ (by omega) _ _ _ _ _ hx) hr
      · rename_i d ht
        simp only [call, ht]
        exact hr
      · simp at hr

theorem frzs_pures {h : Heap} : ∀ {vs : List FV} {n : Nat}, pures vs = true → vs.length ≤ n → frzs h n vs = some vs := by
  intro vs
  induction vs with
  | nil => intro n _ _; cases n <;> rfl
  | cons v vs ih =>
    intro n hp hn
    obtain ⟨n, rfl⟩ : ∃ k, n = k + 1 := ⟨n - 1, by simp at hn; omega⟩
    simp only [pures, Bool.and_eq_true] at hp
    simp only [frzs, frz_pure hp.1, bnd, ih hp.2 (by simp at hn; omega)]

theorem enter_anyh {cal : Call} {n : Nat} {d : Fn} {a : List FV} {v : FV} (hm : d.mode = .iso ∨ d.mode = .isf) (hp : pures a = true) (hl : a.length ≤ 100) (hr : enter cal n d a [] 0 = some (v, [], 0)) (h : Heap) (nx : Nat) : enter cal n d a h nx = some (v, h, nx) := by
  unfold enter at hr ⊢
  obtain ⟨h1, hr⟩ := chk_some hr
  rw [chk, if_pos h1]
  rcases hm with hm | hm
  · rw [hm] at hr ⊢
    simp only at hr ⊢
    obtain ⟨h2, hr⟩ := chk_some hr
    rw [chk, if_pos h2]
    obtain ⟨x, h3, hr⟩ := bnd_some hr
    obtain ⟨y, h4, hr⟩ := bnd_some hr
    obtain ⟨z, h5, hr⟩ := bnd_some hr
    refine bnd_mk h3 (bnd_mk h4 (bnd_mk h5 ?_))
    cases hr; rfl
  · rw [hm] at hr ⊢
    simp only at hr ⊢
    have hd : a.length ≤ deep := by unfold deep; omega
    rw [frzs_pures hp hd] at hr ⊢
    simp only [bnd] at hr ⊢
    split at hr
    · split at hr
      · obtain ⟨h6, hr⟩ := chk_some hr
        rw [chk, if_pos h6]
        cases hr; rfl
      · cases hr
    · cases hr

theorem good_push {T : Tab} {W : Known} (hW : Good T W) {e : Kn} {N1 : Nat} (he : ∀ f a h nx r, look1 e f a h nx = some r → call T N1 f a h nx = some r) : Good T (e :: W) := by
  obtain ⟨N0, h0⟩ := hW
  refine ⟨N0 + N1, fun f a h nx r hl => ?_⟩
  simp only [look] at hl
  split at hl
  · rename_i x hx
    cases hl
    exact call_le T N1 _ (by omega) _ _ _ _ _ (he _ _ _ _ _ hx)
  · exact call_le T N0 _ (by omega) _ _ _ _ _ (h0 _ _ _ _ _ hl)

theorem good_any {T : Tab} {W : Known} (hW : Good T W) {C f : Nat} {d : Fn} {a : List FV} {v : FV} (ht : tget T f = some (.fn d)) (hm : d.mode = .iso ∨ d.mode = .isf) (hp : pures a = true) (hl : a.length ≤ 100) (hr : callW T W C f a [] 0 = some (v, [], 0)) : Good T (⟨f, a, none, v⟩ :: W) := by
  obtain ⟨N1, h1⟩ := callW_call hW C
  have h2 := h1 _ _ _ _ _ hr
  refine good_push hW (N1 := N1) fun g b h nx r hl' => ?_
  unfold look1 at hl'
  split at hl'
  · cases hl'
  · rename_i e1
    simp only at hl'
    split at hl'
    · rename_i e2
      have e1 : f = g := eq_of_beq e1
      have e2 : a = b := eqvs_eq e2
      subst e1; subst e2
      cases hl'
      cases N1 with
      | zero => exact absurd h2 (by simp [call])
      | succ k =>
        unfold call at h2 ⊢
        rw [ht] at h2 ⊢
        replace h2 : chk (f < RB) (enter (call T k) k d a [] 0) = some (v, [], 0) := h2
        show chk (f < RB) (enter (call T k) k d a h nx) = some (v, h, nx)
        obtain ⟨h3, h4⟩ := chk_some h2
        rw [chk, if_pos h3]
        exact enter_anyh hm hp hl h4 h nx
    · cases hl'

theorem good_at {T : Tab} {W : Known} (hW : Good T W) {C f : Nat} {a : List FV} {h h' : Heap} {nx nx' : Nat} {v : FV} (hr : callW T W C f a h nx = some (v, h', nx')) : Good T (⟨f, a, some (h, nx, h', nx'), v⟩ :: W) := by
  obtain ⟨N1, h1⟩ := callW_call hW C
  have h2 := h1 _ _ _ _ _ hr
  refine good_push hW (N1 := N1) fun g b hh n r hl => ?_
  unfold look1 at hl
  split at hl
  · cases hl
  · rename_i e1
    simp only at hl
    split at hl
    · cases hl
    · rename_i e3
      split at hl
      · cases hl
      · rename_i e2
        split at hl
        · rename_i e4
          have e1 : f = g := eq_of_beq e1
          have e2 : a = b := eqvs_eq e2
          have e3 : nx = n := eq_of_beq e3
          have e4 : h = hh := eqH_eq e4
          subst e1; subst e2; subst e3; subst e4
          cases hl
          exact h2
        · cases hl

theorem call_of_runW {T : Tab} {W : Known} (hW : Good T W) {f C N : Nat} {d : Fn} (ht : tget T f = some (.fn d)) (hlt : f < RB) (hm : d.mode = .iso) (hn : d.np = 0) {x : Ex × Tm × Heap × Nat} (hr : run (callW T W C) N [.code d.body] [] [] 0 = some x) {v r : FV} (hf : finish d x = some v) (hz : frz x.2.2.1 deep v = some r) :
    ∃ M, call T M f [] [] 0 = some (r, [], 0) := by
  obtain ⟨N1, h1⟩ := callW_call hW C
  exact ⟨_, call_of_run ht hlt hm hn (Nat.le_refl _) (run_le h1 N N (Nat.le_refl _) _ _ _ _ _ hr) hf hz⟩

end Go.FI
