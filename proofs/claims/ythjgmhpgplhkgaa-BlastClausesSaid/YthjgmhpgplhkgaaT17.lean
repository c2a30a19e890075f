/- A part of the proof: see the last text. -/
import Derived.Test.YthjgmhpgplhkgaaT16
set_option linter.unusedSimpArgs false
set_option linter.unusedVariables false
namespace Go.Proofs.Ythjgmhpgplhkgaa.Fi
open Go.FI
theorem tg9 : tget T 9 = some (.fn c9) := by rfl
theorem tg3 : tget T 3 = some (.fn c3) := by rfl
theorem pu4 (q : List (List Int)) : pures (q.map clV) = true := pures_map (fun l => by simp [clV, pure_, pu3]) _
theorem lo4 (b : Nat) (q : List (List Int)) : lows b (q.map clV) = true := lows_map (fun l => by simp [clV, low, lo3]) _
theorem gd4 {q : List (List Int)} {i : Nat} {d : FV} (h : i < q.length) : (q.map clV).getD i d = .lst false ((q.getD i []).map intV) := getD_map _ h
theorem LAWS2 : type_of% (And.intro pu3 <| And.intro lo3 <| And.intro @gd3 <| And.intro pu4 <| And.intro lo4 @gd4) := And.intro pu3 <| And.intro lo3 <| And.intro @gd3 <| And.intro pu4 <| And.intro lo4 @gd4
abbrev Q9 : Post Out := ⟨fun x => resV c9.res x = some (.bool true)⟩
theorem c9_in {e d} (q : List (List Int)) (i : Nat) (hi' : i < q.length) (hq : q.length ≤ 1000000) (hb : (q.getD i []).length ≤ 1000)
    (next : @Ok Out (runs T [.code b9_2, .inL (some 7) b9_2, .inB 0, .code k9_3] [(0, .lst e (q.map clV)), (1, .lst d (q.map clV)), (5, .int .i64 ((i + 1 : Nat) : Int))] [] 7) Q9) : ∀ (k j : Nat), j + k = (q.getD i []).length →
    @Ok Out (runs T [.code b9_0, .inL (some 23) b9_0, .inB 2, .inB 1, .code k9_1, .inL (some 7) b9_2, .inB 0, .code k9_3] [(0, .lst e (q.map clV)), (1, .lst d (q.map clV)), (5, .int .i64 i), (6, .int .i64 j)] [] 23) Q9 := by
  intro k
  induction k with
  | zero =>
    intro j hj
    have : ¬ (j : Int) < (q.getD i []).length := by omega
    simp (disch := first | omega | (simp only [List.length_append, List.length_map, List.length_cons, List.length_nil, List.length_replicate, List.length_drop, List.length_take]; omega) | (simp only [hget_c, Nat.reduceEqDiff, ↓reduceIte]; done) | assumption | (simp (disch := omega) only [hg_ne, hg_eq, hgs_ne, *]; done) | (simp only [LAWS2]; done) | with_unfolding_all rfl) only [unf b9_0.eq_1, unf k9_1.eq_1, c9, LAWS2, this, EV1, EV2, EV3, EV4, w_lp1, w_lp0, ca_0, ca_s, Nat.reduceAdd, Nat.reduceSub, Int.reduceToNat, Nat.reduceMul, Nat.reduceEqDiff, Nat.reduceLeDiff, ↓reduceIte, List.length_cons, List.length_nil, List.getElem?_cons_zero, List.getElem?_cons_succ, if_true, if_false, Ck_pos, List.all_cons, List.all_nil, Bool.and_self, Bool.and_true, Bool.true_and, beq_self_eq_true, eq_self, Bool.not_true, Bool.not_false, decide_true, decide_false, and_self, true_and, and_true, List.drop_zero, List.drop_succ_cons, List.take_succ_cons, List.take_zero, List.take_nil, List.drop_nil, List.cons_append, List.nil_append, List.append_nil, Int.toNat_natCast, List.length_map, Nat.le_refl, Nat.zero_add, Nat.sub_zero, Nat.add_zero, take_full, List.replicate_succ, List.replicate_zero, List.set_cons_zero, List.set_cons_succ, Option.some.injEq, FV.bool.injEq, FV.int.injEq, most, deep, wrap64]
    exact Ok_inL (by decide) (by simp [lowTm, low, LAWS2]) (by simp [cutH, lowHeap]) next
  | succ k ih =>
    intro j hj
    have : (j : Int) < (q.getD i []).length := by omega
    simp (disch := first | omega | (simp only [List.length_append, List.length_map, List.length_cons, List.length_nil, List.length_replicate, List.length_drop, List.length_take]; omega) | (simp only [hget_c, Nat.reduceEqDiff, ↓reduceIte]; done) | assumption | (simp (disch := omega) only [hg_ne, hg_eq, hgs_ne, *]; done) | (simp only [LAWS2]; done) | with_unfolding_all rfl) only [unf b9_0.eq_1, c9, LAWS2, this, EV1, EV2, EV3, EV4, w_lp1, w_lp0, ca_0, ca_s, Nat.reduceAdd, Nat.reduceSub, Int.reduceToNat, Nat.reduceMul, Nat.reduceEqDiff, Nat.reduceLeDiff, ↓reduceIte, List.length_cons, List.length_nil, List.getElem?_cons_zero, List.getElem?_cons_succ, if_true, if_false, Ck_pos, List.all_cons, List.all_nil, Bool.and_self, Bool.and_true, Bool.true_and, beq_self_eq_true, eq_self, Bool.not_true, Bool.not_false, decide_true, decide_false, and_self, true_and, and_true, List.drop_zero, List.drop_succ_cons, List.take_succ_cons, List.take_zero, List.take_nil, List.drop_nil, List.cons_append, List.nil_append, List.append_nil, Int.toNat_natCast, List.length_map, Nat.le_refl, Nat.zero_add, Nat.sub_zero, Nat.add_zero, take_full, List.replicate_succ, List.replicate_zero, List.set_cons_zero, List.set_cons_succ, Option.some.injEq, FV.bool.injEq, FV.int.injEq, most, deep, wrap64]
    exact Ok_inL (by decide) (by simp [lowTm, low, LAWS2]) (by simp [cutH, lowHeap]) (ih (j + 1) (by omega))
theorem c9_out {e d} (q : List (List Int)) (hq : q.length ≤ 1000000) (hb : ∀ i, (q.getD i []).length ≤ 1000) : ∀ (k i : Nat), i + k = q.length →
    @Ok Out (runs T [.code b9_2, .inL (some 7) b9_2, .inB 0, .code k9_3] [(0, .lst e (q.map clV)), (1, .lst d (q.map clV)), (5, .int .i64 i)] [] 7) Q9 := by
  intro k
  induction k with
  | zero =>
    intro i hi
    have : ¬ (i : Int) < q.length := by omega
    simp (disch := first | omega | (simp only [List.length_append, List.length_map, List.length_cons, List.length_nil, List.length_replicate, List.length_drop, List.length_take]; omega) | (simp only [hget_c, Nat.reduceEqDiff, ↓reduceIte]; done) | assumption | (simp (disch := omega) only [hg_ne, hg_eq, hgs_ne, *]; done) | (simp only [LAWS2]; done) | with_unfolding_all rfl) only [unf b9_2.eq_1, unf k9_3.eq_1, c9, LAWS2, this, EV1, EV2, EV3, EV4, w_lp1, w_lp0, ca_0, ca_s, Nat.reduceAdd, Nat.reduceSub, Int.reduceToNat, Nat.reduceMul, Nat.reduceEqDiff, Nat.reduceLeDiff, ↓reduceIte, List.length_cons, List.length_nil, List.getElem?_cons_zero, List.getElem?_cons_succ, if_true, if_false, Ck_pos, List.all_cons, List.all_nil, Bool.and_self, Bool.and_true, Bool.true_and, beq_self_eq_true, eq_self, Bool.not_true, Bool.not_false, decide_true, decide_false, and_self, true_and, and_true, List.drop_zero, List.drop_succ_cons, List.take_succ_cons, List.take_zero, List.take_nil, List.drop_nil, List.cons_append, List.nil_append, List.append_nil, Int.toNat_natCast, List.length_map, Nat.le_refl, Nat.zero_add, Nat.sub_zero, Nat.add_zero, take_full, List.replicate_succ, List.replicate_zero, List.set_cons_zero, List.set_cons_succ, Option.some.injEq, FV.bool.injEq, FV.int.injEq, most, deep, wrap64]
  | succ k ih =>
    intro i hi
    have : (i : Int) < q.length := by omega
    simp (disch := first | omega | (simp only [List.length_append, List.length_map, List.length_cons, List.length_nil, List.length_replicate, List.length_drop, List.length_take]; omega) | (simp only [hget_c, Nat.reduceEqDiff, ↓reduceIte]; done) | assumption | (simp (disch := omega) only [hg_ne, hg_eq, hgs_ne, *]; done) | (simp only [LAWS2]; done) | with_unfolding_all rfl) only [unf b9_2.eq_1, c9, LAWS2, this, EV1, EV2, EV3, EV4, w_lp1, w_lp0, ca_0, ca_s, Nat.reduceAdd, Nat.reduceSub, Int.reduceToNat, Nat.reduceMul, Nat.reduceEqDiff, Nat.reduceLeDiff, ↓reduceIte, List.length_cons, List.length_nil, List.getElem?_cons_zero, List.getElem?_cons_succ, if_true, if_false, Ck_pos, List.all_cons, List.all_nil, Bool.and_self, Bool.and_true, Bool.true_and, beq_self_eq_true, eq_self, Bool.not_true, Bool.not_false, decide_true, decide_false, and_self, true_and, and_true, List.drop_zero, List.drop_succ_cons, List.take_succ_cons, List.take_zero, List.take_nil, List.drop_nil, List.cons_append, List.nil_append, List.append_nil, Int.toNat_natCast, List.length_map, Nat.le_refl, Nat.zero_add, Nat.sub_zero, Nat.add_zero, take_full, List.replicate_succ, List.replicate_zero, List.set_cons_zero, List.set_cons_succ, Option.some.injEq, FV.bool.injEq, FV.int.injEq, most, deep, wrap64]
    exact c9_in q i (by omega) hq (hb i) (ih (i + 1) (by omega)) (q.getD i []).length 0 (by omega)
theorem sameCl_spec {e d} (q : List (List Int)) (hq : q.length ≤ 1000000) (hb : ∀ i, (q.getD i []).length ≤ 1000) : ∀ h nx, lim T 9 [.lst e (q.map clV), .lst d (q.map clV)] h nx = some (.bool true, h, nx) := by
  refine lim_iso tg9 rfl rfl (by simp [pures, pu4, pure_]) ?_
  simp (disch := first | omega | (simp only [List.length_append, List.length_map, List.length_cons, List.length_nil, List.length_replicate, List.length_drop, List.length_take]; omega) | (simp only [hget_c, Nat.reduceEqDiff, ↓reduceIte]; done) | assumption | (simp (disch := omega) only [hg_ne, hg_eq, hgs_ne, *]; done) | (simp only [LAWS2]; done) | with_unfolding_all rfl) only [c9, LAWS2, EV1, EV2, EV3, EV4, w_lp1, w_lp0, ca_0, ca_s, Nat.reduceAdd, Nat.reduceSub, Int.reduceToNat, Nat.reduceMul, Nat.reduceEqDiff, Nat.reduceLeDiff, ↓reduceIte, List.length_cons, List.length_nil, List.getElem?_cons_zero, List.getElem?_cons_succ, if_true, if_false, Ck_pos, List.all_cons, List.all_nil, Bool.and_self, Bool.and_true, Bool.true_and, beq_self_eq_true, eq_self, Bool.not_true, Bool.not_false, decide_true, decide_false, and_self, true_and, and_true, List.drop_zero, List.drop_succ_cons, List.take_succ_cons, List.take_zero, List.take_nil, List.drop_nil, List.cons_append, List.nil_append, List.append_nil, Int.toNat_natCast, List.length_map, Nat.le_refl, Nat.zero_add, Nat.sub_zero, Nat.add_zero, take_full, List.replicate_succ, List.replicate_zero, List.set_cons_zero, List.set_cons_succ, Option.some.injEq, FV.bool.injEq, FV.int.injEq, most, deep, wrap64]
  exact c9_out q hq hb q.length 0 (by omega)
theorem clausesS_eq (ins : In) (gs : Ga) (outs : List Int) (o : Int) (hs : Small ins gs outs) : ∃ (n : Int) (q : List (List Int)) (r : Int), q.length ≤ 1000000 ∧ (∀ i, (q.getD i []).length ≤ 1000) ∧ ∃ e, clausesS false ins gs outs o = .tup [.int .i64 n, .lst false (q.map clV), .int .i64 r] ∧ clausesS true ins gs outs o = .tup [.int .i64 n, .lst e (q.map clV), .int .i64 r] := by
  obtain ⟨h1, h2, h3⟩ := hs
  have hall : ∀ (q : List (List Int)), (∀ l ∈ q, l.length ≤ 1000) → ∀ i, (q.getD i []).length ≤ 1000 := by
    intro q hq i
    rw [List.getD_eq_getElem?_getD]
    cases hx : q[i]? with
    | none => simp
    | some l => exact hq l (List.mem_of_getElem? hx)
  unfold clausesS
  split
  · split
    · exact ⟨_, [], _, by simp, by simp, true, rfl, rfl⟩
    · split
      · exact ⟨_, [], _, by simp, by simp, true, rfl, rfl⟩
      · refine ⟨_, _, _, ?_, hall _ ?_, false, rfl, rfl⟩
        · simp only [List.length_append, clS_len, List.length_cons, List.length_nil]; omega
        · intro l hl
          rw [List.mem_append] at hl
          rcases hl with hl | hl
          · exact clS_short _ _ _ l hl
          · simp at hl; subst hl; simp
  · exact ⟨_, [], _, by simp, by simp, true, rfl, rfl⟩
theorem law_spec {e1 e2 e3 ins gs outs} (o : Int) (h0 : ins.length ≤ 9223372036854775807) : ∀ h nx, lim T 3 [circV e1 e2 e3 ins gs outs, .int .i64 o] h nx = some (.bool true, h, nx) := by
  refine lim_iso tg3 rfl rfl (by simp [pures, pure_circ, pure_]) ?_
  obtain ⟨r, ⟨b, rfl, hb⟩, hg⟩ := @great_spec e1 e2 e3 ins gs outs h0
  unfold circV at hg
  cases b with
  | true =>
    simp (disch := first | omega | (simp only [List.length_append, List.length_map, List.length_cons, List.length_nil, List.length_replicate, List.length_drop, List.length_take]; omega) | (simp only [hget_c, Nat.reduceEqDiff, ↓reduceIte]; done) | assumption | (simp (disch := omega) only [hg_ne, hg_eq, hgs_ne, *]; done) | (simp only [LAWS2]; done) | with_unfolding_all rfl) only [c3, circV, hg, EV1, EV2, EV3, EV4, w_lp1, w_lp0, ca_0, ca_s, Nat.reduceAdd, Nat.reduceSub, Int.reduceToNat, Nat.reduceMul, Nat.reduceEqDiff, Nat.reduceLeDiff, ↓reduceIte, List.length_cons, List.length_nil, List.getElem?_cons_zero, List.getElem?_cons_succ, if_true, if_false, Ck_pos, List.all_cons, List.all_nil, Bool.and_self, Bool.and_true, Bool.true_and, beq_self_eq_true, eq_self, Bool.not_true, Bool.not_false, decide_true, decide_false, and_self, true_and, and_true, List.drop_zero, List.drop_succ_cons, List.take_succ_cons, List.take_zero, List.take_nil, List.drop_nil, List.cons_append, List.nil_append, List.append_nil, Int.toNat_natCast, List.length_map, Nat.le_refl, Nat.zero_add, Nat.sub_zero, Nat.add_zero, take_full, List.replicate_succ, List.replicate_zero, List.set_cons_zero, List.set_cons_succ, Option.some.injEq, FV.bool.injEq, FV.int.injEq, most, deep, wrap64]
  | false =>
    have hs := hb rfl
    have t1 := @twin_spec e1 e2 e3 ins gs outs hs
    obtain ⟨n, q, r, hq, hqb, e, q1, q2⟩ := clausesS_eq ins gs outs o hs
    have t2 := @clauses_spec false false false ins gs outs o hs
    have t3 := @clauses2_spec e1 e2 e3 ins gs outs o hs
    have t4 := @sameCl_spec false e q hq hqb
    have t5 := @same_spec false false false e1 e2 e3 ins gs outs hs
    rw [q1] at t2
    rw [q2] at t3
    unfold circV at t1 t2 t3 t5
    simp (disch := first | omega | (simp only [List.length_append, List.length_map, List.length_cons, List.length_nil, List.length_replicate, List.length_drop, List.length_take]; omega) | (simp only [hget_c, Nat.reduceEqDiff, ↓reduceIte]; done) | assumption | (simp (disch := omega) only [hg_ne, hg_eq, hgs_ne, *]; done) | (simp only [LAWS2]; done) | with_unfolding_all rfl) only [c3, circV, hg, t1, t2, t3, t4, t5, EV1, EV2, EV3, EV4, w_lp1, w_lp0, ca_0, ca_s, Nat.reduceAdd, Nat.reduceSub, Int.reduceToNat, Nat.reduceMul, Nat.reduceEqDiff, Nat.reduceLeDiff, ↓reduceIte, List.length_cons, List.length_nil, List.getElem?_cons_zero, List.getElem?_cons_succ, if_true, if_false, Ck_pos, List.all_cons, List.all_nil, Bool.and_self, Bool.and_true, Bool.true_and, beq_self_eq_true, eq_self, Bool.not_true, Bool.not_false, decide_true, decide_false, and_self, true_and, and_true, List.drop_zero, List.drop_succ_cons, List.take_succ_cons, List.take_zero, List.take_nil, List.drop_nil, List.cons_append, List.nil_append, List.append_nil, Int.toNat_natCast, List.length_map, Nat.le_refl, Nat.zero_add, Nat.sub_zero, Nat.add_zero, take_full, List.replicate_succ, List.replicate_zero, List.set_cons_zero, List.set_cons_succ, Option.some.injEq, FV.bool.injEq, FV.int.injEq, most, deep, wrap64]
end Go.Proofs.Ythjgmhpgplhkgaa.Fi

