/- A part of the proof: see the last text. -/
import Derived.Test.YthjgmhpgplhkgaaT15
set_option linter.unusedSimpArgs false
set_option linter.unusedVariables false
namespace Go.Proofs.Ythjgmhpgplhkgaa.Fi
open Go.FI
theorem clauses_spec {e1 e2 e3 ins gs outs} (o : Int) (hs : Small ins gs outs) : ∀ h nx, lim T 7 [circV e1 e2 e3 ins gs outs, .int .i64 o] h nx = some (clausesS false ins gs outs o, h, nx) := by
  have c1 := @check_spec' e1 e2 e3 ins gs outs hs
  obtain ⟨h1, h2, h3⟩ := id hs
  refine lim_iso tg7 rfl rfl (by simp [pures, pure_circ, pure_]) ?_
  simp (disch := first | omega | (simp only [List.length_append, List.length_map, List.length_cons, List.length_nil, List.length_replicate, List.length_drop, List.length_take]; omega) | (simp only [hget_c, Nat.reduceEqDiff, ↓reduceIte]; done) | assumption | (simp (disch := omega) only [hg_ne, hg_eq, hgs_ne, *]; done) | (simp only [LAWS]; done) | with_unfolding_all rfl) only [c7, circV, c1, EV1, EV2, EV3, EV4, w_lp1, w_lp0, ca_0, ca_s, Nat.reduceAdd, Nat.reduceSub, Int.reduceToNat, Nat.reduceMul, Nat.reduceEqDiff, Nat.reduceLeDiff, ↓reduceIte, List.length_cons, List.length_nil, List.getElem?_cons_zero, List.getElem?_cons_succ, if_true, if_false, Ck_pos, List.all_cons, List.all_nil, Bool.and_self, Bool.and_true, Bool.true_and, beq_self_eq_true, eq_self, Bool.not_true, Bool.not_false, decide_true, decide_false, and_self, true_and, and_true, List.drop_zero, List.drop_succ_cons, List.take_succ_cons, List.take_zero, List.take_nil, List.drop_nil, List.cons_append, List.nil_append, List.append_nil, Int.toNat_natCast, List.length_map, Nat.le_refl, Nat.zero_add, Nat.sub_zero, Nat.add_zero, take_full, List.replicate_succ, List.replicate_zero, List.set_cons_zero, List.set_cons_succ, Option.some.injEq, FV.bool.injEq, FV.int.injEq, most, deep, wrap64]
  repeat' (refine Ok_if (fun hb => ?_) (fun hb => ?_) <;> have h := hb <;> (try simp only [decide_eq_true_eq, decide_eq_false_iff_not, Int.not_lt, Int.not_le] at h) <;> (simp (disch := first | omega | (simp only [List.length_append, List.length_map, List.length_cons, List.length_nil, List.length_replicate, List.length_drop, List.length_take]; omega) | (simp only [hget_c, Nat.reduceEqDiff, ↓reduceIte]; done) | assumption | (simp (disch := omega) only [hg_ne, hg_eq, hgs_ne, *]; done) | (simp only [LAWS]; done) | with_unfolding_all rfl) only [hb, c7, EV1, EV2, EV3, EV4, w_lp1, w_lp0, ca_0, ca_s, Nat.reduceAdd, Nat.reduceSub, Int.reduceToNat, Nat.reduceMul, Nat.reduceEqDiff, Nat.reduceLeDiff, ↓reduceIte, List.length_cons, List.length_nil, List.getElem?_cons_zero, List.getElem?_cons_succ, if_true, if_false, Ck_pos, List.all_cons, List.all_nil, Bool.and_self, Bool.and_true, Bool.true_and, beq_self_eq_true, eq_self, Bool.not_true, Bool.not_false, decide_true, decide_false, and_self, true_and, and_true, List.drop_zero, List.drop_succ_cons, List.take_succ_cons, List.take_zero, List.take_nil, List.drop_nil, List.cons_append, List.nil_append, List.append_nil, Int.toNat_natCast, List.length_map, Nat.le_refl, Nat.zero_add, Nat.sub_zero, Nat.add_zero, take_full, List.replicate_succ, List.replicate_zero, List.set_cons_zero, List.set_cons_succ, Option.some.injEq, FV.bool.injEq, FV.int.injEq, most, deep, wrap64]) <;> (try clear hb))
  · unfold clausesS; rw [if_pos (by assumption), if_pos (by omega)]
  · unfold clausesS; rw [if_pos (by assumption), if_pos (by omega)]
  · unfold clausesS; rw [if_pos (by assumption), if_neg (by omega), if_pos (by omega)]
  · refine c7_loop ins gs outs o hs (by assumption) (by omega) (by omega) (by omega) gs.length 0 1 38 _ [.sref 1 30 1 0 1] (by omega) rfl (by omega) rfl rfl ⟨⟨30, rfl, by omega, by omega, rfl⟩, trivial⟩
  · unfold clausesS; rw [if_neg (by assumption)]
theorem c8_loop {e1 e2 e3} (ins : In) (gs : Ga) (outs : List Int) (o : Int) (hs : Small ins gs outs) (hk : chkS ins gs outs = 0) (ho : 0 ≤ o) (ho' : o < outs.length) (hn : (1 : Int) + ins.length + gs.length ≤ 5000) :
    ∀ (k i n nx : Nat) (h : Heap) (rs : List FV), i + k = gs.length → n = rs.length → 31 ≤ nx → hget h 0 = some (.row 3 [circV e1 e2 e3 ins gs outs]) → hget h 28 = some (.row 1 rs) → RdL h 28 nx rs (clS ins.length gs i) →
    @Ok Out (runs T [.code b8_0, .inL none b8_0, .inB 0, .code k8_1] [(1, .int .i64 o), (2, .ptr 0 1 0 0), (7, .int .i64 (1 + ins.length + gs.length)), (8, .sref 1 28 n 0 n), (9, .int .i64 i)] h nx)
      ⟨fun x => resV c8.res x = some (clausesS true ins gs outs o)⟩ := by
  obtain ⟨g1, g2, g3⟩ := chk_good hk
  intro k
  induction k with
  | zero =>
    intro i n nx h rs hi hrs hnx h0 h2 hrd
    have : ¬ (i : Int) < gs.length := by omega
    have ol := g3 o.toNat (by omega)
    unfold goodO at ol
    have lo := atom_spec (outs.getD o.toNat 0) (by omega) (by omega)
    have hoc : (o.toNat : Int) = o := by omega
    have hl := hrd.length
    have hq : ∀ o, hget (hset h 28 o) 28 = some o := fun o => hgs_eq h2
    rw [clS_len] at hl
    simp (disch := first | omega | (simp only [List.length_append, List.length_map, List.length_cons, List.length_nil, List.length_replicate, List.length_drop, List.length_take]; omega) | (simp only [hget_c, Nat.reduceEqDiff, ↓reduceIte]; done) | assumption | (simp (disch := omega) only [hg_ne, hg_eq, hgs_ne, *]; done) | (simp only [LAWS]; done) | with_unfolding_all rfl) only [unf b8_0.eq_1, unf k8_1.eq_1, c8, circV, this, LAWS, Nat.add_assoc, h0, h2, lo, hgs_eq h2, EV1, EV2, EV3, EV4, w_lp1, w_lp0, ca_0, ca_s, Nat.reduceAdd, Nat.reduceSub, Int.reduceToNat, Nat.reduceMul, Nat.reduceEqDiff, Nat.reduceLeDiff, ↓reduceIte, List.length_cons, List.length_nil, List.getElem?_cons_zero, List.getElem?_cons_succ, if_true, if_false, Ck_pos, List.all_cons, List.all_nil, Bool.and_self, Bool.and_true, Bool.true_and, beq_self_eq_true, eq_self, Bool.not_true, Bool.not_false, decide_true, decide_false, and_self, true_and, and_true, List.drop_zero, List.drop_succ_cons, List.take_succ_cons, List.take_zero, List.take_nil, List.drop_nil, List.cons_append, List.nil_append, List.append_nil, Int.toNat_natCast, List.length_map, Nat.le_refl, Nat.zero_add, Nat.sub_zero, Nat.add_zero, take_full, List.replicate_succ, List.replicate_zero, List.set_cons_zero, List.set_cons_succ, Option.some.injEq, FV.bool.injEq, FV.int.injEq, most, deep, wrap64]
    have hi' : i = gs.length := by omega
    subst hi'
    rw [RdL.frz (q := clS ins.length gs gs.length ++ [[litS (outs.getD o.toNat 0)]]) (a := 28) (b := nx + 14)]
    · unfold clausesS
      rw [if_pos hk, if_neg (by omega), if_neg (by omega)]
      simp (disch := first | omega | (simp only [List.length_append, List.length_map, List.length_cons, List.length_nil, List.length_replicate, List.length_drop, List.length_take]; omega) | (simp only [hget_c, Nat.reduceEqDiff, ↓reduceIte]; done) | assumption | (simp (disch := omega) only [hg_ne, hg_eq, hgs_ne, *]; done) | (simp only [LAWS]; done) | with_unfolding_all rfl) only [EV1, EV2, EV3, EV4, w_lp1, w_lp0, ca_0, ca_s, Nat.reduceAdd, Nat.reduceSub, Int.reduceToNat, Nat.reduceMul, Nat.reduceEqDiff, Nat.reduceLeDiff, ↓reduceIte, List.length_cons, List.length_nil, List.getElem?_cons_zero, List.getElem?_cons_succ, if_true, if_false, Ck_pos, List.all_cons, List.all_nil, Bool.and_self, Bool.and_true, Bool.true_and, beq_self_eq_true, eq_self, Bool.not_true, Bool.not_false, decide_true, decide_false, and_self, true_and, and_true, List.drop_zero, List.drop_succ_cons, List.take_succ_cons, List.take_zero, List.take_nil, List.drop_nil, List.cons_append, List.nil_append, List.append_nil, Int.toNat_natCast, List.length_map, Nat.le_refl, Nat.zero_add, Nat.sub_zero, Nat.add_zero, take_full, List.replicate_succ, List.replicate_zero, List.set_cons_zero, List.set_cons_succ, Option.some.injEq, FV.bool.injEq, FV.int.injEq, most, deep, wrap64]
    · refine RdL.append ?_ (hrd.mono (by omega) fun id k1 k2 => ?_)
      · refine ⟨⟨nx + 13, rfl, by omega, by omega, ?_⟩, trivial⟩
        simp (disch := omega) only [hg_ne, hgs_ne, hg_eq, List.map_cons, List.map_nil, intV]
      · simp (disch := omega) only [hg_ne, hgs_ne]
    · intro l hl
      rw [List.mem_append] at hl
      rcases hl with hl | hl
      · exact clS_short _ _ _ l hl
      · simp at hl; subst hl; simp
    · simp only [List.length_append, List.length_cons, List.length_nil]; obtain ⟨s1, s2, s3⟩ := hs; omega
  | succ k ih =>
    intro i n nx h rs hi hrs hnx h0 h2 hrd
    have : (i : Int) < gs.length := by omega
    have gi := g2 i (by omega)
    unfold goodG at gi
    have la := atom_spec (gs.getD i (0, 0)).1 (by omega) (by omega)
    have lb := atom_spec (gs.getD i (0, 0)).2 (by omega) (by omega)
    have ba := litS_bd (l := (gs.getD i (0, 0)).1) (by omega) (by omega)
    have bb := litS_bd (l := (gs.getD i (0, 0)).2) (by omega) (by omega)
    have hl := hrd.length
    have hq : ∀ o, hget (hset h 28 o) 28 = some o := fun o => hgs_eq h2
    rw [clS_len] at hl
    simp (disch := first | omega | (simp only [List.length_append, List.length_map, List.length_cons, List.length_nil, List.length_replicate, List.length_drop, List.length_take]; omega) | (simp only [hget_c, Nat.reduceEqDiff, ↓reduceIte]; done) | assumption | (simp (disch := omega) only [hg_ne, hg_eq, hgs_ne, *]; done) | (simp only [LAWS]; done) | with_unfolding_all rfl) only [unf b8_0.eq_1, c8, circV, this, LAWS, Nat.add_assoc, la, lb, h0, h2, hq, EV1, EV2, EV3, EV4, w_lp1, w_lp0, ca_0, ca_s, Nat.reduceAdd, Nat.reduceSub, Int.reduceToNat, Nat.reduceMul, Nat.reduceEqDiff, Nat.reduceLeDiff, ↓reduceIte, List.length_cons, List.length_nil, List.getElem?_cons_zero, List.getElem?_cons_succ, if_true, if_false, Ck_pos, List.all_cons, List.all_nil, Bool.and_self, Bool.and_true, Bool.true_and, beq_self_eq_true, eq_self, Bool.not_true, Bool.not_false, decide_true, decide_false, and_self, true_and, and_true, List.drop_zero, List.drop_succ_cons, List.take_succ_cons, List.take_zero, List.take_nil, List.drop_nil, List.cons_append, List.nil_append, List.append_nil, Int.toNat_natCast, List.length_map, Nat.le_refl, Nat.zero_add, Nat.sub_zero, Nat.add_zero, take_full, List.replicate_succ, List.replicate_zero, List.set_cons_zero, List.set_cons_succ, Option.some.injEq, FV.bool.injEq, FV.int.injEq, most, deep, wrap64]
    have e : rs ++ [FV.sref 1 (nx + 33) 2 0 2] ++ [.sref 1 (nx + 41) 2 0 2] ++ [.sref 1 (nx + 51) 3 0 3] = rs ++ [.sref 1 (nx + 33) 2 0 2, .sref 1 (nx + 41) 2 0 2, .sref 1 (nx + 51) 3 0 3] := by simp
    rw [e]
    refine Ok_inL0 (ih (i + 1) _ _ _ (rs ++ [.sref 1 (nx + 33) 2 0 2, .sref 1 (nx + 41) 2 0 2, .sref 1 (nx + 51) 3 0 3]) (by omega) ?_ (by omega) ?_ ?_ ?_)
    rotate_left 3
    · refine RdL.append ?_ (hrd.mono (by omega) fun id k1 k2 => ?_)
      rotate_left
      · simp (disch := omega) only [hg_ne, hgs_ne]
      · refine ⟨⟨nx + 33, rfl, by omega, by omega, ?_⟩, ⟨nx + 41, rfl, by omega, by omega, ?_⟩, ⟨nx + 51, rfl, by omega, by omega, ?_⟩, trivial⟩
        all_goals simp (disch := omega) only [hg_ne, hgs_ne, hg_eq]
        all_goals simp [intV]
        all_goals omega
    · simp only [List.length_append, List.length_cons, List.length_nil]; omega
    · simp (disch := omega) only [hg_ne, hgs_ne, h0]
    · simp (disch := omega) only [hg_ne, hgs_eq h2]
theorem clauses2_spec {e1 e2 e3 ins gs outs} (o : Int) (hs : Small ins gs outs) : ∀ h nx, lim T 8 [circV e1 e2 e3 ins gs outs, .int .i64 o] h nx = some (clausesS true ins gs outs o, h, nx) := by
  have c1 := @check2_spec' e1 e2 e3 ins gs outs hs
  obtain ⟨h1, h2, h3⟩ := id hs
  refine lim_iso tg8 rfl rfl (by simp [pures, pure_circ, pure_]) ?_
  simp (disch := first | omega | (simp only [List.length_append, List.length_map, List.length_cons, List.length_nil, List.length_replicate, List.length_drop, List.length_take]; omega) | (simp only [hget_c, Nat.reduceEqDiff, ↓reduceIte]; done) | assumption | (simp (disch := omega) only [hg_ne, hg_eq, hgs_ne, *]; done) | (simp only [LAWS]; done) | with_unfolding_all rfl) only [c8, circV, c1, EV1, EV2, EV3, EV4, w_lp1, w_lp0, ca_0, ca_s, Nat.reduceAdd, Nat.reduceSub, Int.reduceToNat, Nat.reduceMul, Nat.reduceEqDiff, Nat.reduceLeDiff, ↓reduceIte, List.length_cons, List.length_nil, List.getElem?_cons_zero, List.getElem?_cons_succ, if_true, if_false, Ck_pos, List.all_cons, List.all_nil, Bool.and_self, Bool.and_true, Bool.true_and, beq_self_eq_true, eq_self, Bool.not_true, Bool.not_false, decide_true, decide_false, and_self, true_and, and_true, List.drop_zero, List.drop_succ_cons, List.take_succ_cons, List.take_zero, List.take_nil, List.drop_nil, List.cons_append, List.nil_append, List.append_nil, Int.toNat_natCast, List.length_map, Nat.le_refl, Nat.zero_add, Nat.sub_zero, Nat.add_zero, take_full, List.replicate_succ, List.replicate_zero, List.set_cons_zero, List.set_cons_succ, Option.some.injEq, FV.bool.injEq, FV.int.injEq, most, deep, wrap64]
  repeat' (refine Ok_if (fun hb => ?_) (fun hb => ?_) <;> have h := hb <;> (try simp only [decide_eq_true_eq, decide_eq_false_iff_not, Int.not_lt, Int.not_le] at h) <;> (simp (disch := first | omega | (simp only [List.length_append, List.length_map, List.length_cons, List.length_nil, List.length_replicate, List.length_drop, List.length_take]; omega) | (simp only [hget_c, Nat.reduceEqDiff, ↓reduceIte]; done) | assumption | (simp (disch := omega) only [hg_ne, hg_eq, hgs_ne, *]; done) | (simp only [LAWS]; done) | with_unfolding_all rfl) only [hb, c8, c1, EV1, EV2, EV3, EV4, w_lp1, w_lp0, ca_0, ca_s, Nat.reduceAdd, Nat.reduceSub, Int.reduceToNat, Nat.reduceMul, Nat.reduceEqDiff, Nat.reduceLeDiff, ↓reduceIte, List.length_cons, List.length_nil, List.getElem?_cons_zero, List.getElem?_cons_succ, if_true, if_false, Ck_pos, List.all_cons, List.all_nil, Bool.and_self, Bool.and_true, Bool.true_and, beq_self_eq_true, eq_self, Bool.not_true, Bool.not_false, decide_true, decide_false, and_self, true_and, and_true, List.drop_zero, List.drop_succ_cons, List.take_succ_cons, List.take_zero, List.take_nil, List.drop_nil, List.cons_append, List.nil_append, List.append_nil, Int.toNat_natCast, List.length_map, Nat.le_refl, Nat.zero_add, Nat.sub_zero, Nat.add_zero, take_full, List.replicate_succ, List.replicate_zero, List.set_cons_zero, List.set_cons_succ, Option.some.injEq, FV.bool.injEq, FV.int.injEq, most, deep, wrap64]) <;> (try clear hb))
  · unfold clausesS; rw [if_pos (by assumption), if_pos (by omega)]
  · unfold clausesS; rw [if_pos (by assumption), if_pos (by omega)]
  · unfold clausesS; rw [if_pos (by assumption), if_neg (by omega), if_pos (by omega)]
  · refine c8_loop ins gs outs o hs (by assumption) (by omega) (by omega) (by omega) gs.length 0 1 31 _ [.sref 1 27 1 0 1] (by omega) rfl (by omega) rfl rfl ⟨⟨27, rfl, by omega, by omega, rfl⟩, trivial⟩
  · unfold clausesS; rw [if_neg (by assumption)]
end Go.Proofs.Ythjgmhpgplhkgaa.Fi

