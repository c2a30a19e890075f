/- Values from one scope to another. -/
import Derived.Test.YthjgmhpgplhkgaaFISound
set_option linter.unusedSimpArgs false
set_option linter.unusedVariables false
namespace Go.FI
open Go.RowKit

theorem pures_iff {vs : List FV} : pures vs = true ↔ ∀ v ∈ vs, pure_ v = true := by
  induction vs with
  | nil => simp [pures]
  | cons v vs ih => simp [pures, ih]

theorem pure_cells {v : FV} (h : pure_ v = true) : pures v.cells = true := by
  cases v <;> simp_all [FV.cells, pures, pure_]

theorem pures_flat {vs : List FV} (h : pures vs = true) : pures (vs.flatMap FV.cells) = true := by
  rw [pures_iff] at h ⊢
  intro c hc
  obtain ⟨v, hv, hcv⟩ := List.mem_flatMap.1 hc
  exact pures_iff.1 (pure_cells (h v hv)) c hcv

section
variable {g g2 : Gh} {w w' : World}

mutual
theorem R.pure (hz : ∀ b, g.Z b → g2.Z b) : ∀ {v : FV} {x : Value}, R g w v x → pure_ v = true → R g2 w v x
  | _, _, .undef v, _ => .undef v
  | _, _, .bool b, _ => .bool b
  | _, _, .int k n, _ => .int k n
  | _, _, .str s, _ => .str s
  | _, _, .agg cs vs hr, h => .agg cs vs (RL.pure hz hr h)
  | _, _, .tup cs vs hr, h => .tup cs vs (RL.pure hz hr h)
  | _, _, .lst0 e a cap he, _ => .lst0 e a cap he
  | _, _, .lst e xs b o es cap cs hne he hle hZ hes hx hr hc, h => .lst e xs b o es cap cs hne he hle (hz b hZ) hes hx (RL.pure hz hr (pures_flat h)) hc
  | _, _, .eptr cs off b o vs hZ hr hc, h => .eptr cs off b o vs (hz b hZ) (RL.pure hz hr h) hc
  | _, _, .nilp, _ => .nilp
  | _, _, .nilm, _ => .nilm
  | _, _, .fn f cs vs hr, h => .fn f cs vs (RL.pure hz hr h)
  | _, _, .nilf, _ => .nilf
  | _, _, .ifc t v x hr, h => .ifc t v x (R.pure hz hr h)
  | _, _, .nili, _ => .nili
theorem RL.pure (hz : ∀ b, g.Z b → g2.Z b) : ∀ {vs : List FV} {xs : List Value}, RL g w vs xs → pures vs = true → RL g2 w vs xs
  | _, _, .nil, _ => .nil
  | _, _, .cons v x vs xs hr hs, h => .cons v x vs xs (R.pure hz hr (by simp [pures] at h; exact h.1)) (RL.pure hz hs (by simp [pures] at h; exact h.2))
end

mutual
theorem R.flat : ∀ {v : FV} {x : Value}, R g w v x → flat v = true → R g2 w' v x
  | _, _, .undef v, _ => .undef v
  | _, _, .bool b, _ => .bool b
  | _, _, .int k n, _ => .int k n
  | _, _, .str s, _ => .str s
  | _, _, .agg cs vs hr, h => .agg cs vs (RL.flat hr h)
  | _, _, .tup cs vs hr, h => .tup cs vs (RL.flat hr h)
  | _, _, .nilp, _ => .nilp
  | _, _, .nilm, _ => .nilm
  | _, _, .nilf, _ => .nilf
  | _, _, .nili, _ => .nili
theorem RL.flat : ∀ {vs : List FV} {xs : List Value}, RL g w vs xs → flats vs = true → RL g2 w' vs xs
  | _, _, .nil, _ => .nil
  | _, _, .cons v x vs xs hr hs, h => .cons v x vs xs (R.flat hr (by simp [flats] at h; exact h.1)) (RL.flat hs (by simp [flats] at h; exact h.2))
end

theorem RL.split {a b : List FV} {cs : List Value} (h : RL g w (a ++ b) cs) : ∃ c1 c2, cs = c1 ++ c2 ∧ RL g w a c1 ∧ RL g w b c2 := by
  induction a generalizing cs with
  | nil => exact ⟨[], cs, rfl, .nil, h⟩
  | cons v a ih =>
    cases h with
    | cons _ x _ xs hr hs =>
      obtain ⟨c1, c2, rfl, h1, h2⟩ := ih hs
      exact ⟨x :: c1, c2, rfl, .cons _ _ _ _ hr h1, h2⟩

variable {B : Nat} {w0 : World} {h h' : Heap}

structure FrzV (g g2 : Gh) (w : World) (v r : FV) : Prop where
  val : ∀ x, R g w v x → R g2 w r x
  cells : ∀ cs, RL g w v.cells cs → RL g2 w r.cells cs
  len : r.cells.length = v.cells.length
  ok : v.ok = true → r.ok = true
  one : v.one = true → r.one = true

structure FrzL (g g2 : Gh) (w : World) (vs rs : List FV) : Prop where
  val : ∀ xs, RL g w vs xs → RL g2 w rs xs
  flat : ∀ cs, RL g w (vs.flatMap FV.cells) cs → RL g2 w (rs.flatMap FV.cells) cs
  len : rs.length = vs.length
  one : vs.all FV.one = true → rs.all FV.one = true
  elems : ∀ es, (∀ x ∈ vs, x.cells.length = es ∧ x.ok = true) → ∀ x ∈ rs, x.cells.length = es ∧ x.ok = true

theorem FrzV.of_pure (hz : ∀ b, g.Z b → g2.Z b) {v : FV} (h : pure_ v = true) : FrzV g g2 w v v :=
  ⟨fun _ hr => hr.pure hz h, fun _ hr => hr.pure hz (pure_cells h), rfl, fun h => h, fun h => h⟩

/-- One cell, not an aggregate. -/
theorem FrzV.of_one {v r : FV} (hv : v.cells = [v]) (hr : r.cells = [r]) (h1 : r.one = true) (h2 : r.ok = true) (h : ∀ x, R g w v x → R g2 w r x) : FrzV g g2 w v r :=
  ⟨h, fun cs hc => by
    rw [hv] at hc; rw [hr]
    cases hc with | cons _ x _ xs h3 h4 => cases h4; exact .cons _ _ _ _ (h x h3) .nil, by rw [hv, hr]; rfl, fun _ => h2, fun _ => h1⟩

theorem frz_both (hI : Inv B w0 g h w) (hz : ∀ b, g.Z b → g2.Z b) (ho : ∀ i l b, g.κ i = some l → l.blk = some b → g2.Z b) :
    ∀ n, (∀ v r, frz h n v = some r → FrzV g g2 w v r) ∧ (∀ vs rs, frzs h n vs = some rs → FrzL g g2 w vs rs) := by
  have nilL : FrzL g g2 w [] [] := ⟨fun xs hx => by cases hx; exact .nil, fun cs hc => by cases hc; exact .nil, rfl, fun h => h, fun _ _ x hx => by simp at hx⟩
  intro n
  induction n with
  | zero =>
    constructor
    · intro v r hf
      simp only [frz] at hf
      split at hf
      · rename_i hp
        simp only [Option.some.injEq] at hf; subst hf
        exact .of_pure hz hp
      · simp at hf
    · intro vs rs hf
      cases vs with
      | nil => simp only [frzs, Option.some.injEq] at hf; subst hf; exact nilL
      | cons v vs => simp [frzs] at hf
  | succ n ih =>
    obtain ⟨ihV, ihL⟩ := ih
    constructor
    · intro v r hf
      simp only [frz] at hf
      split at hf
      · rename_i hp
        simp only [Option.some.injEq] at hf; subst hf
        exact .of_pure hz hp
      · split at hf
        · rename_i cs
          obtain ⟨rs, k1, k2⟩ := bnd_some hf
          simp only [Option.some.injEq] at k2; subst k2
          have q := ihL _ _ k1
          exact ⟨fun x hx => by cases hx with | agg _ vs hr => exact .agg _ _ (q.val _ hr), fun c hc => q.val _ hc, q.len, fun h => by simp only [FV.ok] at h ⊢; exact q.one h, fun h => by simp [FV.one] at h⟩
        · rename_i cs
          obtain ⟨rs, k1, k2⟩ := bnd_some hf
          simp only [Option.some.injEq] at k2; subst k2
          have q := ihL _ _ k1
          exact ⟨fun x hx => by cases hx with | tup _ vs hr => exact .tup _ _ (q.val _ hr), fun c hc => by
            simp only [FV.cells] at hc ⊢
            cases hc with | cons _ x _ xs h3 h4 => cases h4; exact .cons _ _ _ _ (by cases h3 with | tup _ vs hr => exact .tup _ _ (q.val _ hr)) .nil, rfl, fun h => by simp [FV.ok, FV.one] at h, fun h => by simp [FV.one] at h⟩
        · rename_i f cs
          obtain ⟨rs, k1, k2⟩ := bnd_some hf
          simp only [Option.some.injEq] at k2; subst k2
          have q := ihL _ _ k1
          exact .of_one rfl rfl rfl rfl fun x hx => by cases hx with | fn _ _ vs hr => exact .fn _ _ _ (q.val _ hr)
        · rename_i t u
          obtain ⟨rs, k1, k2⟩ := bnd_some hf
          simp only [Option.some.injEq] at k2; subst k2
          have q := ihV _ _ k1
          exact .of_one rfl rfl rfl rfl fun x hx => by cases hx with | ifc _ _ x hr => exact .ifc _ _ _ (q.val _ hr)
        · rename_i es id stamp off len _
          obtain ⟨xs, k1, k2⟩ := bnd_some hf
          obtain ⟨rs, k3, k4⟩ := bnd_some k2
          simp only [Option.some.injEq] at k4; subst k4
          have q := ihL _ _ k3
          refine .of_one rfl rfl rfl rfl fun x hx => ?_
          cases hx with | sref _ _ _ _ _ l aa cap hk hee hs hle ha hh =>
          simp only [elems] at k1
          split at k1
          · rename_i es2 ys hg
            obtain ⟨⟨e1, e2⟩, e3⟩ := chk_some k1
            simp only [Option.some.injEq] at e3; subst e3
            obtain ⟨l', hk', hrow⟩ := hI.obj' hk hg
            rw [hk] at hk'; cases hk'
            have hrow : RowOk g w l es2 ys := hrow
            obtain ⟨q1, q2, q3⟩ := hh (by rw [hrow.hsize]; exact e1.symm)
            have hcl : (cut ys off (off + len)).length = len := by rw [cut_length _ _ _ (by omega)]; omega
            have hrl : rs.length = len := by rw [q.len, hcl]
            by_cases hz0 : len = 0
            · subst hz0
              have : rs = [] := List.eq_nil_of_length_eq_zero hrl
              subst this
              exact .lst0 _ _ _ (fun h => by simp at h)
            · obtain ⟨b, hb, rfl⟩ := q3 (by omega)
              obtain ⟨arr, t, r1, r2, r3, cs, r4, r5⟩ := hrow.hsome b hb
              have hels : ∀ x ∈ cut ys off (off + len), x.cells.length = es2 ∧ x.ok = true := fun x hx => by
                unfold cut at hx
                exact hrow.elems x (List.mem_of_mem_drop (List.mem_of_mem_take hx))
              have hflat : (cut ys off (off + len)).flatMap FV.cells = cut (ys.flatMap FV.cells) (off * es2) ((off + len) * es2) := by
                have hx'' : ∀ x ∈ ys.drop off, x.cells.length = es2 := fun x hx => (hrow.elems x (List.mem_of_mem_drop hx)).1
                unfold cut
                rw [flat_drop (fun x hx => (hrow.elems x hx).1), ← Nat.mul_sub_right_distrib, flat_take hx'']
              have hfin := R.lst (g := g2) (w := w) false rs b (off * l.es) es2 cap (cut cs (off * es2) ((off + len) * es2)) (fun e => by rw [e] at hrl; simp at hrl; omega) (fun h => by simp at h) (by omega) (ho _ _ _ hk hb) hrow.pos
                (q.elems es2 hels) (q.flat _ (by rw [hflat]; exact r4.cut _ _)) (fun j v hj => by
                  have := r5 _ _ (cut_get _ _ _ _ _ hj)
                  rw [hrow.hes]
                  simp [World.cell?, r1, this])
              rw [hrl] at hfin
              exact hfin
          · simp at k1
        · simp at hf
    · intro vs rs hf
      cases vs with
      | nil => simp only [frzs, Option.some.injEq] at hf; subst hf; exact nilL
      | cons v vs =>
        simp only [frzs] at hf
        obtain ⟨r, k1, k2⟩ := bnd_some hf
        obtain ⟨rr, k3, k4⟩ := bnd_some k2
        simp only [Option.some.injEq] at k4; subst k4
        have q1 := ihV _ _ k1
        have q2 := ihL _ _ k3
        refine ⟨fun xs hx => ?_, fun cs hc => ?_, by simp [q2.len], fun h => ?_, fun es h x hx => ?_⟩
        · cases hx with | cons _ x _ xs h3 h4 => exact .cons _ _ _ _ (q1.val _ h3) (q2.val _ h4)
        · rw [List.flatMap_cons] at hc ⊢
          obtain ⟨c1, c2, rfl, h1, h2⟩ := hc.split
          exact (q1.cells _ h1).append (q2.flat _ h2)
        · simp only [List.all_cons, Bool.and_eq_true] at h ⊢
          exact ⟨q1.one h.1, q2.one h.2⟩
        · rcases List.mem_cons.1 hx with e | e
          · subst e
            obtain ⟨h1, h2⟩ := h v (by simp)
            exact ⟨by rw [q1.len]; exact h1, q1.ok h2⟩
          · exact q2.elems es (fun y hy => h y (by simp [hy])) x e

theorem elems_sub (hs : Sub h h') {v : FV} {xs : List FV} (he : elems h v = some xs) : elems h' v = some xs := by
  unfold elems at he ⊢
  split at he
  · exact he
  · exact he
  · split at he
    · rename_i hg; rw [hs _ _ hg]; exact he
    · simp at he
  · simp at he

theorem frz_sub (hs : Sub h h') : ∀ n, (∀ v r, frz h n v = some r → frz h' n v = some r) ∧ (∀ vs rs, frzs h n vs = some rs → frzs h' n vs = some rs) := by
  intro n
  induction n with
  | zero =>
    exact ⟨fun v r h => by simpa only [frz] using h, fun vs rs h => by cases vs <;> simpa only [frzs] using h⟩
  | succ n ih =>
    obtain ⟨ihV, ihL⟩ := ih
    constructor
    · intro v r hf
      simp only [frz] at hf ⊢
      split at hf
      · rename_i hp; rw [if_pos hp]; exact hf
      · rename_i hp
        rw [if_neg hp]
        split at hf
        · obtain ⟨rs, k1, k2⟩ := bnd_some hf
          simp only [ihL _ _ k1]; exact k2
        · obtain ⟨rs, k1, k2⟩ := bnd_some hf
          simp only [ihL _ _ k1]; exact k2
        · obtain ⟨rs, k1, k2⟩ := bnd_some hf
          simp only [ihL _ _ k1]; exact k2
        · obtain ⟨rs, k1, k2⟩ := bnd_some hf
          simp only [ihV _ _ k1]; exact k2
        · obtain ⟨xs, k1, k2⟩ := bnd_some hf
          obtain ⟨rs, k3, k4⟩ := bnd_some k2
          simp only [elems_sub hs k1, bnd, ihL _ _ k3]; exact k4
        · simp at hf
    · intro vs rs hf
      cases vs with
      | nil => simpa only [frzs] using hf
      | cons v vs =>
        simp only [frzs] at hf ⊢
        obtain ⟨r, k1, k2⟩ := bnd_some hf
        obtain ⟨rr, k3, k4⟩ := bnd_some k2
        simp only [ihV _ _ k1, bnd, ihL _ _ k3]; exact k4

end
end Go.FI
