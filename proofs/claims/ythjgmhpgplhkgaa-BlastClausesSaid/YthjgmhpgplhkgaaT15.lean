/- A part of the proof: see the last text. -/
import Derived.Test.YthjgmhpgplhkgaaT14
set_option linter.unusedSimpArgs false
set_option linter.unusedVariables false
namespace Go.Proofs.Ythjgmhpgplhkgaa.Fi
open Go.FI
theorem tg7 : tget T 7 = some (.fn c7) := by rfl
theorem tg8 : tget T 8 = some (.fn c8) := by rfl
theorem check_spec' {e1 e2 e3 ins gs outs} (hs : Small ins gs outs) : ∀ h nx, lim T 16 [.agg [.lst e1 (ins.map inV), .lst e2 (gs.map gateV), .lst e3 (outs.map intV)]] h nx = some (.int .i64 (chkS ins gs outs), h, nx) := check_spec hs
theorem check2_spec' {e1 e2 e3 ins gs outs} (hs : Small ins gs outs) : ∀ h nx, lim T 17 [.agg [.lst e1 (ins.map inV), .lst e2 (gs.map gateV), .lst e3 (outs.map intV)]] h nx = some (.int .i64 (chkS ins gs outs), h, nx) := check2_spec hs
/-- Slices of slices of integers, while they are being made. -/
def RdL (h : Heap) (a b : Nat) : List FV → List (List Int) → Prop
  | [], [] => True
  | v :: r, l :: q => (∃ id, v = .sref 1 id l.length 0 l.length ∧ id ≠ a ∧ id < b ∧ hget h id = some (.row 1 (l.map intV))) ∧ RdL h a b r q
  | _, _ => False
theorem RdL.length {h : Heap} {a b : Nat} : ∀ {r : List FV} {q : List (List Int)}, RdL h a b r q → r.length = q.length := by
  intro r
  induction r with
  | nil => intro q hq; cases q with | nil => rfl | cons => cases hq
  | cons v r ih => intro q hq; cases q with | nil => cases hq | cons l q => simp [ih hq.2]
theorem RdL.mono {h h' : Heap} {a b b' : Nat} (hb : b ≤ b') (hh : ∀ id, id ≠ a → id < b → hget h' id = hget h id) : ∀ {r : List FV} {q : List (List Int)}, RdL h a b r q → RdL h' a b' r q := by
  intro r
  induction r with
  | nil => intro q hq; cases q with | nil => trivial | cons => cases hq
  | cons v r ih =>
    intro q hq
    cases q with
    | nil => cases hq
    | cons l q =>
      obtain ⟨⟨id, h1, h2, h3, h4⟩, h5⟩ := hq
      exact ⟨⟨id, h1, h2, by omega, by rw [hh id h2 h3]; exact h4⟩, ih h5⟩
theorem RdL.append {h : Heap} {a b : Nat} {r' : List FV} {q' : List (List Int)} (hq' : RdL h a b r' q') : ∀ {r : List FV} {q : List (List Int)}, RdL h a b r q → RdL h a b (r ++ r') (q ++ q') := by
  intro r
  induction r with
  | nil => intro q hq; cases q with | nil => exact hq' | cons => cases hq
  | cons v r ih => intro q hq; cases q with | nil => cases hq | cons l q => exact ⟨hq.1, ih hq.2⟩
def clV (l : List Int) : FV := .lst false (l.map intV)
theorem RdL.frz {h : Heap} {a b : Nat} : ∀ {r : List FV} {q : List (List Int)} {n : Nat}, RdL h a b r q → (∀ l ∈ q, l.length ≤ 1000) → r.length + 1100 ≤ n → frzs h n r = some (q.map clV) := by
  intro r
  induction r with
  | nil => intro q n hq _ _; cases q with | nil => exact fzs_n | cons => cases hq
  | cons v r ih =>
    intro q n hq hl hn
    cases q with
    | nil => cases hq
    | cons l q =>
      obtain ⟨⟨id, h1, h2, h3, h4⟩, h5⟩ := hq
      subst h1
      simp only [List.length_cons] at hn
      obtain ⟨k, rfl⟩ : ∃ k, n = k + 2 := ⟨n - 2, by omega⟩
      have hl1 := hl l (by simp)
      rw [show k + 2 = (k + 1) + 1 from rfl, fzs_c, fz_ref, el_r, h4, elRow_r, Ck_pos ⟨by simp, by omega⟩, B_some, cut_d]
      rw [ih h5 (fun l hl' => hl l (by simp [hl'])) (by omega)]
      have : List.take (0 + l.length - 0) (List.drop 0 (l.map intV)) = l.map intV := by
        rw [Nat.zero_add, Nat.sub_zero, List.drop_zero]; exact take_full (by simp)
      rw [this, frzs_pure (pu3 l) (by simp; omega)]
      rfl
/-- The clauses of the gates. -/
def clG (n : Nat) (gs : Ga) (i : Nat) : List (List Int) := [[0 - ((2 + n + i : Nat) : Int), litS (gs.getD i (0, 0)).1], [0 - ((2 + n + i : Nat) : Int), litS (gs.getD i (0, 0)).2], [((2 + n + i : Nat) : Int), 0 - litS (gs.getD i (0, 0)).1, 0 - litS (gs.getD i (0, 0)).2]]
def clS (n : Nat) (gs : Ga) : Nat → List (List Int)
  | 0 => [[-1]]
  | i + 1 => clS n gs i ++ clG n gs i
theorem clS_short (n : Nat) (gs : Ga) : ∀ i, ∀ l ∈ clS n gs i, l.length ≤ 1000 := by
  intro i
  induction i with
  | zero => intro l hl; simp [clS] at hl; subst hl; decide
  | succ i ih =>
    intro l hl
    simp only [clS, List.mem_append] at hl
    rcases hl with hl | hl
    · exact ih l hl
    · simp only [clG, List.mem_cons, List.not_mem_nil, or_false] at hl
      rcases hl with rfl | rfl | rfl <;> simp
theorem clS_len (n : Nat) (gs : Ga) : ∀ i, (clS n gs i).length = 1 + 3 * i := by
  intro i
  induction i with
  | zero => rfl
  | succ i ih => simp only [clS, List.length_append, ih, clG, List.length_cons, List.length_nil]; omega
theorem litS_bd {l : Int} (h0 : 0 ≤ l) (h1 : l < 1152921504606846976) : -1152921504606846976 ≤ litS l ∧ litS l ≤ 1152921504606846976 := by
  unfold litS; split <;> omega
open Classical in
noncomputable def clausesS (e : Bool) (ins : In) (gs : Ga) (outs : List Int) (o : Int) : FV :=
  if chkS ins gs outs = 0 then
    if o < 0 ∨ outs.length ≤ o then .tup [.int .i64 0, .lst e [], .int .i64 2]
    else if 5000 < (1 : Int) + ins.length + gs.length then .tup [.int .i64 0, .lst e [], .int .i64 4]
    else .tup [.int .i64 (1 + ins.length + gs.length), .lst false ((clS ins.length gs gs.length ++ [[litS (outs.getD o.toNat 0)]]).map clV), .int .i64 0]
  else .tup [.int .i64 0, .lst e [], .int .i64 (chkS ins gs outs)]
theorem chk_good {ins gs outs} (h : chkS ins gs outs = 0) : goodC ins gs outs := by
  unfold chkS at h
  split at h
  · split at h
    · assumption
    · cases h
  · cases h
theorem c7_loop {e1 e2 e3} (ins : In) (gs : Ga) (outs : List Int) (o : Int) (hs : Small ins gs outs) (hk : chkS ins gs outs = 0) (ho : 0 ≤ o) (ho' : o < outs.length) (hn : (1 : Int) + ins.length + gs.length ≤ 5000) :
    ∀ (k i n nx : Nat) (h : Heap) (rs : List FV), i + k = gs.length → n = rs.length → 38 ≤ nx → hget h 0 = some (.row 3 [circV e1 e2 e3 ins gs outs]) → hget h 2 = some (.row 1 rs) → RdL h 2 nx rs (clS ins.length gs i) →
    @Ok Out (runs T [.code b7_0, .inL none b7_0, .inB 0, .code k7_1] [(1, .int .i64 o), (2, .ptr 0 1 0 0), (4, .int .i64 (1 + ins.length + gs.length)), (5, .sref 1 2 n 0 n), (42, .lst e2 (gs.map gateV)), (43, .int .i64 gs.length), (44, .int .i64 i)] h nx)
      ⟨fun x => resV c7.res x = some (clausesS false ins gs outs o)⟩ := by
  obtain ⟨g1, g2, g3⟩ := chk_good hk
  intro k
  induction k with
  | zero =>
    intro i n nx h rs hi hrs hnx h0 h2 hrd
    have : ¬ (i : Int) < gs.length := by omega
    have ol := g3 o.toNat (by omega)
    unfold goodO at ol
    have lo := literal_spec (outs.getD o.toNat 0) (by omega) (by omega)
    have hoc : (o.toNat : Int) = o := by omega
    have hl := hrd.length
    rw [clS_len] at hl
    simp (disch := first | omega | (simp only [List.length_append, List.length_map, List.length_cons, List.length_nil, List.length_replicate, List.length_drop, List.length_take]; omega) | (simp only [hget_c, Nat.reduceEqDiff, ↓reduceIte]; done) | assumption | (simp (disch := omega) only [hg_ne, hg_eq, hgs_ne, *]; done) | (simp only [LAWS]; done) | with_unfolding_all rfl) only [unf b7_0.eq_1, unf k7_1.eq_1, c7, circV, this, LAWS, Nat.add_assoc, h0, h2, lo, hgs_eq h2, EV1, EV2, EV3, EV4, w_lp1, w_lp0, ca_0, ca_s, Nat.reduceAdd, Nat.reduceSub, Int.reduceToNat, Nat.reduceMul, Nat.reduceEqDiff, Nat.reduceLeDiff, ↓reduceIte, List.length_cons, List.length_nil, List.getElem?_cons_zero, List.getElem?_cons_succ, if_true, if_false, Ck_pos, List.all_cons, List.all_nil, Bool.and_self, Bool.and_true, Bool.true_and, beq_self_eq_true, eq_self, Bool.not_true, Bool.not_false, decide_true, decide_false, and_self, true_and, and_true, List.drop_zero, List.drop_succ_cons, List.take_succ_cons, List.take_zero, List.take_nil, List.drop_nil, List.cons_append, List.nil_append, List.append_nil, Int.toNat_natCast, List.length_map, Nat.le_refl, Nat.zero_add, Nat.sub_zero, Nat.add_zero, take_full, List.replicate_succ, List.replicate_zero, List.set_cons_zero, List.set_cons_succ, Option.some.injEq, FV.bool.injEq, FV.int.injEq, most, deep, wrap64]
    have hi' : i = gs.length := by omega
    subst hi'
    rw [RdL.frz (q := clS ins.length gs gs.length ++ [[litS (outs.getD o.toNat 0)]]) (a := 2) (b := nx + 10)]
    · unfold clausesS
      rw [if_pos hk, if_neg (by omega), if_neg (by omega)]
      simp (disch := first | omega | (simp only [List.length_append, List.length_map, List.length_cons, List.length_nil, List.length_replicate, List.length_drop, List.length_take]; omega) | (simp only [hget_c, Nat.reduceEqDiff, ↓reduceIte]; done) | assumption | (simp (disch := omega) only [hg_ne, hg_eq, hgs_ne, *]; done) | (simp only [LAWS]; done) | with_unfolding_all rfl) only [EV1, EV2, EV3, EV4, w_lp1, w_lp0, ca_0, ca_s, Nat.reduceAdd, Nat.reduceSub, Int.reduceToNat, Nat.reduceMul, Nat.reduceEqDiff, Nat.reduceLeDiff, ↓reduceIte, List.length_cons, List.length_nil, List.getElem?_cons_zero, List.getElem?_cons_succ, if_true, if_false, Ck_pos, List.all_cons, List.all_nil, Bool.and_self, Bool.and_true, Bool.true_and, beq_self_eq_true, eq_self, Bool.not_true, Bool.not_false, decide_true, decide_false, and_self, true_and, and_true, List.drop_zero, List.drop_succ_cons, List.take_succ_cons, List.take_zero, List.take_nil, List.drop_nil, List.cons_append, List.nil_append, List.append_nil, Int.toNat_natCast, List.length_map, Nat.le_refl, Nat.zero_add, Nat.sub_zero, Nat.add_zero, take_full, List.replicate_succ, List.replicate_zero, List.set_cons_zero, List.set_cons_succ, Option.some.injEq, FV.bool.injEq, FV.int.injEq, most, deep, wrap64]
    · refine RdL.append ?_ (hrd.mono (by omega) fun id k1 k2 => ?_)
      · refine ⟨⟨nx + 9, rfl, by omega, by omega, ?_⟩, trivial⟩
        simp (disch := omega) only [hg_ne, hgs_ne, hg_eq, List.map_cons, List.map_nil, intV]
      · simp (disch := omega) only [hg_ne, hgs_ne]
    · intro l hl
      rw [List.mem_append] at hl
      rcases hl with hl | hl
      · exact clS_short _ _ _ l hl
      · simp at hl; subst hl; simp
    · simp only [List.length_append, List.length_cons, List.length_nil]; obtain ⟨s1, s2, s3⟩ := hs; omega
  | succ k ih =>
    intro i n nx h rs hi hrs hnx h0 h2 hrd
    have : (i : Int) < gs.length := by omega
    have gi := g2 i (by omega)
    unfold goodG at gi
    have la := literal_spec (gs.getD i (0, 0)).1 (by omega) (by omega)
    have lb := literal_spec (gs.getD i (0, 0)).2 (by omega) (by omega)
    have ba := litS_bd (l := (gs.getD i (0, 0)).1) (by omega) (by omega)
    have bb := litS_bd (l := (gs.getD i (0, 0)).2) (by omega) (by omega)
    have hl := hrd.length
    rw [clS_len] at hl
    simp (disch := first | omega | (simp only [List.length_append, List.length_map, List.length_cons, List.length_nil, List.length_replicate, List.length_drop, List.length_take]; omega) | (simp only [hget_c, Nat.reduceEqDiff, ↓reduceIte]; done) | assumption | (simp (disch := omega) only [hg_ne, hg_eq, hgs_ne, *]; done) | (simp only [LAWS]; done) | with_unfolding_all rfl) only [unf b7_0.eq_1, c7, circV, this, LAWS, Nat.add_assoc, la, lb, h0, h2, EV1, EV2, EV3, EV4, w_lp1, w_lp0, ca_0, ca_s, Nat.reduceAdd, Nat.reduceSub, Int.reduceToNat, Nat.reduceMul, Nat.reduceEqDiff, Nat.reduceLeDiff, ↓reduceIte, List.length_cons, List.length_nil, List.getElem?_cons_zero, List.getElem?_cons_succ, if_true, if_false, Ck_pos, List.all_cons, List.all_nil, Bool.and_self, Bool.and_true, Bool.true_and, beq_self_eq_true, eq_self, Bool.not_true, Bool.not_false, decide_true, decide_false, and_self, true_and, and_true, List.drop_zero, List.drop_succ_cons, List.take_succ_cons, List.take_zero, List.take_nil, List.drop_nil, List.cons_append, List.nil_append, List.append_nil, Int.toNat_natCast, List.length_map, Nat.le_refl, Nat.zero_add, Nat.sub_zero, Nat.add_zero, take_full, List.replicate_succ, List.replicate_zero, List.set_cons_zero, List.set_cons_succ, Option.some.injEq, FV.bool.injEq, FV.int.injEq, most, deep, wrap64]
    refine Ok_inL0 (ih (i + 1) _ _ _ (rs ++ [.sref 1 (nx + 26) 2 0 2, .sref 1 (nx + 30) 2 0 2, .sref 1 (nx + 36) 3 0 3]) (by omega) ?_ (by omega) ?_ ?_ ?_)
    rotate_left 3
    · refine RdL.append ?_ (hrd.mono (by omega) fun id k1 k2 => ?_)
      rotate_left
      · simp (disch := omega) only [hg_ne, hgs_ne]
      · refine ⟨⟨nx + 26, rfl, by omega, by omega, ?_⟩, ⟨nx + 30, rfl, by omega, by omega, ?_⟩, ⟨nx + 36, rfl, by omega, by omega, ?_⟩, trivial⟩
        all_goals simp (disch := omega) only [hg_ne, hgs_ne, hg_eq]
        all_goals simp [intV]
        all_goals omega
    · simp only [List.length_append, List.length_cons, List.length_nil]; omega
    · simp (disch := omega) only [hg_ne, hgs_ne, h0]
    · simp (disch := omega) only [hg_ne, hgs_eq h2]
end Go.Proofs.Ythjgmhpgplhkgaa.Fi

