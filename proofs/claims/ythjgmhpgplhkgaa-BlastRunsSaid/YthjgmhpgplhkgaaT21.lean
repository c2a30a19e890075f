/- A part of the proof: see the last text. -/
import Derived.Test.YthjgmhpgplhkgaaT20
set_option linter.unusedSimpArgs false
set_option linter.unusedVariables false
namespace Go.Proofs.Ythjgmhpgplhkgaa.Fi
open Go.FI
theorem chk_good' {ins gs outs} (h : chkS ins gs outs = 0) : goodC ins gs outs := by
  unfold chkS at h
  split at h
  · split at h
    · assumption
    · cases h
  · cases h
open Classical in
noncomputable def runS (e : Bool) (ins : In) (gs : Ga) (outs : List Int) (inb : List Bool) : FV :=
  if chkS ins gs outs = 0 then
    if inb.length = ins.length then .tup [.lst e ((outsS (nodesS inb gs gs.length) outs).map .bool), .int .i64 0]
    else .tup [.lst true [], .int .i64 2]
  else .tup [.lst true [], .int .i64 (chkS ins gs outs)]
theorem c13_loop {e1 e2 e3} (ins : In) (gs : Ga) (outs : List Int) (inb : List Bool) (hs : Small ins gs outs) (hl : inb.length = ins.length) (hk : chkS ins gs outs = 0) (ns : List Bool) (hns : ns = nodesS inb gs gs.length) : ∀ (k i n : Nat) (os : List Bool), i + k = outs.length → os = (outs.take i).map (litB ns) → n = os.length →
    @Ok Out (runs T [.code b13_0, .inL (some 18) b13_0, .inB 0, .code k13_1] [(2, .ptr 0 1 0 0), (6, .lst false (ns.map .bool)), (7, .sref 1 16 n 0 n), (8, .int .i64 i)] [(16, .row 1 (os.map .bool)), (0, .row 3 [circV e1 e2 e3 ins gs outs])] 18) ⟨fun x => resV c13.res x = some (runS false ins gs outs inb)⟩ := by
  have hg := chk_good' hk
  obtain ⟨h1, h2, h3⟩ := hs
  have hlen := nodesS_len inb gs gs.length
  rw [← hns] at hlen
  intro k
  induction k with
  | zero =>
    intro i n os hi hos hn
    have : ¬ (i : Int) < outs.length := by omega
    have hol : os.length = i := by rw [hos]; simp; omega
    simp (disch := first | omega | (simp only [List.length_append, List.length_map, List.length_cons, List.length_nil, List.length_replicate, List.length_drop, List.length_take]; omega) | (simp only [hget_c, Nat.reduceEqDiff, ↓reduceIte]; done) | assumption | (simp (disch := omega) only [hg_ne, hg_eq, hgs_ne, *]; done) | (simp only [LAWS, pu5, pu6]; done) | with_unfolding_all rfl) only [unf b13_0.eq_1, unf k13_1.eq_1, c13, circV, this, LAWS, LAWS3, EV1, EV2, EV3, EV4, w_lp1, w_lp0, ca_0, ca_s, Nat.reduceAdd, Nat.reduceSub, Int.reduceToNat, Nat.reduceMul, Nat.reduceEqDiff, Nat.reduceLeDiff, ↓reduceIte, List.length_cons, List.length_nil, List.getElem?_cons_zero, List.getElem?_cons_succ, if_true, if_false, Ck_pos, List.all_cons, List.all_nil, Bool.and_self, Bool.and_true, Bool.true_and, beq_self_eq_true, eq_self, Bool.not_true, Bool.not_false, decide_true, decide_false, and_self, true_and, and_true, List.drop_zero, List.drop_succ_cons, List.take_succ_cons, List.take_zero, List.take_nil, List.drop_nil, List.cons_append, List.nil_append, List.append_nil, Int.toNat_natCast, List.length_map, Nat.le_refl, Nat.zero_add, Nat.sub_zero, Nat.add_zero, take_full, List.replicate_succ, List.replicate_zero, List.set_cons_zero, List.set_cons_succ, Option.some.injEq, FV.bool.injEq, FV.int.injEq, most, deep, wrap64, wrapu64, wrapu8, wrapi8]
    unfold runS
    rw [if_pos hk, if_pos hl, hos, hns, List.take_of_length_le (by omega)]
    rfl
  | succ k ih =>
    intro i n os hi hos hn
    have : (i : Int) < outs.length := by omega
    have hol : os.length = i := by rw [hos]; simp; omega
    have gi := hg.2.2 i (by omega)
    unfold goodO at gi
    simp (disch := first | omega | (simp only [List.length_append, List.length_map, List.length_cons, List.length_nil, List.length_replicate, List.length_drop, List.length_take]; omega) | (simp only [hget_c, Nat.reduceEqDiff, ↓reduceIte]; done) | assumption | (simp (disch := omega) only [hg_ne, hg_eq, hgs_ne, *]; done) | (simp only [LAWS, pu5, pu6]; done) | with_unfolding_all rfl) only [unf b13_0.eq_1, c13, circV, this, LAWS, LAWS3, lim23, lit_spec, EV1, EV2, EV3, EV4, w_lp1, w_lp0, ca_0, ca_s, Nat.reduceAdd, Nat.reduceSub, Int.reduceToNat, Nat.reduceMul, Nat.reduceEqDiff, Nat.reduceLeDiff, ↓reduceIte, List.length_cons, List.length_nil, List.getElem?_cons_zero, List.getElem?_cons_succ, if_true, if_false, Ck_pos, List.all_cons, List.all_nil, Bool.and_self, Bool.and_true, Bool.true_and, beq_self_eq_true, eq_self, Bool.not_true, Bool.not_false, decide_true, decide_false, and_self, true_and, and_true, List.drop_zero, List.drop_succ_cons, List.take_succ_cons, List.take_zero, List.take_nil, List.drop_nil, List.cons_append, List.nil_append, List.append_nil, Int.toNat_natCast, List.length_map, Nat.le_refl, Nat.zero_add, Nat.sub_zero, Nat.add_zero, take_full, List.replicate_succ, List.replicate_zero, List.set_cons_zero, List.set_cons_succ, Option.some.injEq, FV.bool.injEq, FV.int.injEq, most, deep, wrap64, wrapu64, wrapu8, wrapi8]
    rw [snocB]
    refine Ok_inL (by decide) (by simp [lowTm, low, LAWS3]) (by simp [cutH, lowHeap, lowObj, lows, low, LAWS, LAWS3, circV, lows_app]) (ih (i + 1) _ _ (by omega) ?_ (by simp; omega))
    rw [hos, ← take_snoc outs i 0 (by omega)]
    simp
theorem run2_spec {e1 e2 e3 e ins gs outs} (inb : List Bool) (hs : Small ins gs outs) (hl : inb.length ≤ 700) : ∀ h nx, lim T 13 [circV e1 e2 e3 ins gs outs, .lst e (inb.map .bool)] h nx = some (runS false ins gs outs inb, h, nx) := by
  have c1 := @check2_spec e1 e2 e3 ins gs outs hs
  have c2 : chkS ins gs outs = 0 → inb.length = ins.length → _ := fun hk hl => @nodes_spec e1 e2 e3 e ins gs outs inb hs hl (chk_good' hk)
  unfold circV at c1 c2
  obtain ⟨h1, h2, h3⟩ := id hs
  refine lim_iso tg13 rfl rfl (by simp [pures, pure_circ, pure_, pu5]) ?_
  simp (disch := first | omega | (simp only [List.length_append, List.length_map, List.length_cons, List.length_nil, List.length_replicate, List.length_drop, List.length_take]; omega) | (simp only [hget_c, Nat.reduceEqDiff, ↓reduceIte]; done) | assumption | (simp (disch := omega) only [hg_ne, hg_eq, hgs_ne, *]; done) | (simp only [LAWS, pu5, pu6]; done) | with_unfolding_all rfl) only [c13, circV, c1, EV1, EV2, EV3, EV4, w_lp1, w_lp0, ca_0, ca_s, Nat.reduceAdd, Nat.reduceSub, Int.reduceToNat, Nat.reduceMul, Nat.reduceEqDiff, Nat.reduceLeDiff, ↓reduceIte, List.length_cons, List.length_nil, List.getElem?_cons_zero, List.getElem?_cons_succ, if_true, if_false, Ck_pos, List.all_cons, List.all_nil, Bool.and_self, Bool.and_true, Bool.true_and, beq_self_eq_true, eq_self, Bool.not_true, Bool.not_false, decide_true, decide_false, and_self, true_and, and_true, List.drop_zero, List.drop_succ_cons, List.take_succ_cons, List.take_zero, List.take_nil, List.drop_nil, List.cons_append, List.nil_append, List.append_nil, Int.toNat_natCast, List.length_map, Nat.le_refl, Nat.zero_add, Nat.sub_zero, Nat.add_zero, take_full, List.replicate_succ, List.replicate_zero, List.set_cons_zero, List.set_cons_succ, Option.some.injEq, FV.bool.injEq, FV.int.injEq, most, deep, wrap64, wrapu64, wrapu8, wrapi8]
  repeat' (refine Ok_if (fun hb => ?_) (fun hb => ?_) <;> have h := hb <;> (try simp only [decide_eq_true_eq, decide_eq_false_iff_not, Int.not_lt, Int.not_le] at h) <;> (simp (disch := first | omega | (simp only [List.length_append, List.length_map, List.length_cons, List.length_nil, List.length_replicate, List.length_drop, List.length_take]; omega) | (simp only [hget_c, Nat.reduceEqDiff, ↓reduceIte]; done) | assumption | (simp (disch := omega) only [hg_ne, hg_eq, hgs_ne, *]; done) | (simp only [LAWS, pu5, pu6]; done) | with_unfolding_all rfl) only [hb, c13, c1, LAWS3, EV1, EV2, EV3, EV4, w_lp1, w_lp0, ca_0, ca_s, Nat.reduceAdd, Nat.reduceSub, Int.reduceToNat, Nat.reduceMul, Nat.reduceEqDiff, Nat.reduceLeDiff, ↓reduceIte, List.length_cons, List.length_nil, List.getElem?_cons_zero, List.getElem?_cons_succ, if_true, if_false, Ck_pos, List.all_cons, List.all_nil, Bool.and_self, Bool.and_true, Bool.true_and, beq_self_eq_true, eq_self, Bool.not_true, Bool.not_false, decide_true, decide_false, and_self, true_and, and_true, List.drop_zero, List.drop_succ_cons, List.take_succ_cons, List.take_zero, List.take_nil, List.drop_nil, List.cons_append, List.nil_append, List.append_nil, Int.toNat_natCast, List.length_map, Nat.le_refl, Nat.zero_add, Nat.sub_zero, Nat.add_zero, take_full, List.replicate_succ, List.replicate_zero, List.set_cons_zero, List.set_cons_succ, Option.some.injEq, FV.bool.injEq, FV.int.injEq, most, deep, wrap64, wrapu64, wrapu8, wrapi8]) <;> (try clear hb))
  · have c3 := c2 (by assumption) (by omega)
    simp (disch := first | omega | (simp only [List.length_append, List.length_map, List.length_cons, List.length_nil, List.length_replicate, List.length_drop, List.length_take]; omega) | (simp only [hget_c, Nat.reduceEqDiff, ↓reduceIte]; done) | assumption | (simp (disch := omega) only [hg_ne, hg_eq, hgs_ne, *]; done) | (simp only [LAWS, pu5, pu6]; done) | with_unfolding_all rfl) only [c3, c13, EV1, EV2, EV3, EV4, w_lp1, w_lp0, ca_0, ca_s, Nat.reduceAdd, Nat.reduceSub, Int.reduceToNat, Nat.reduceMul, Nat.reduceEqDiff, Nat.reduceLeDiff, ↓reduceIte, List.length_cons, List.length_nil, List.getElem?_cons_zero, List.getElem?_cons_succ, if_true, if_false, Ck_pos, List.all_cons, List.all_nil, Bool.and_self, Bool.and_true, Bool.true_and, beq_self_eq_true, eq_self, Bool.not_true, Bool.not_false, decide_true, decide_false, and_self, true_and, and_true, List.drop_zero, List.drop_succ_cons, List.take_succ_cons, List.take_zero, List.take_nil, List.drop_nil, List.cons_append, List.nil_append, List.append_nil, Int.toNat_natCast, List.length_map, Nat.le_refl, Nat.zero_add, Nat.sub_zero, Nat.add_zero, take_full, List.replicate_succ, List.replicate_zero, List.set_cons_zero, List.set_cons_succ, Option.some.injEq, FV.bool.injEq, FV.int.injEq, most, deep, wrap64, wrapu64, wrapu8, wrapi8]
    exact c13_loop ins gs outs inb hs (by omega) (by assumption) _ rfl outs.length 0 0 [] (by omega) (by simp) rfl
  · unfold runS; rw [if_pos (by assumption), if_neg (by omega)]
  · unfold runS; rw [if_neg (by assumption)]
theorem c12_loop2 {e1 e2 e3} (ins : In) (gs : Ga) (outs : List Int) (inb : List Bool) (hs : Small ins gs outs) (hl : inb.length = ins.length) (hk : chkS ins gs outs = 0) (ns : List Bool) (hns : ns = nodesS inb gs gs.length) (m : Nat) (hm : m = ns.length) : ∀ (k i n : Nat) (os : List Bool), i + k = outs.length → os = (outs.take i).map (litB ns) → n = os.length →
    @Ok Out (runs T [.code b12_1, .inL (some 31) b12_1, .inB 2, .code k12_2] [(8, .fn 21 [.ptr 17 1 0 0]), (11, .sref 1 26 n 0 n), (51, .lst e3 (outs.map intV)), (52, .int .i64 outs.length), (53, .int .i64 i)] [(26, .row 1 (os.map .bool)), (17, .row 1 [.sref 1 14 m 0 m]), (14, .row 1 (ns.map .bool)), (0, .row 3 [circV e1 e2 e3 ins gs outs])] 31) ⟨fun x => resV c12.res x = some (runS false ins gs outs inb)⟩ := by
  have hg := chk_good' hk
  obtain ⟨h1, h2, h3⟩ := hs
  have hlen := nodesS_len inb gs gs.length
  rw [← hns] at hlen
  intro k
  induction k with
  | zero =>
    intro i n os hi hos hn
    have : ¬ (i : Int) < outs.length := by omega
    have hol : os.length = i := by rw [hos]; simp; omega
    simp (disch := first | omega | (simp only [List.length_append, List.length_map, List.length_cons, List.length_nil, List.length_replicate, List.length_drop, List.length_take]; omega) | (simp only [hget_c, Nat.reduceEqDiff, ↓reduceIte]; done) | assumption | (simp (disch := omega) only [hg_ne, hg_eq, hgs_ne, *]; done) | (simp only [LAWS, pu5, pu6]; done) | with_unfolding_all rfl) only [unf b12_1.eq_1, unf k12_2.eq_1, c12, circV, this, LAWS, LAWS3, EV1, EV2, EV3, EV4, w_lp1, w_lp0, ca_0, ca_s, Nat.reduceAdd, Nat.reduceSub, Int.reduceToNat, Nat.reduceMul, Nat.reduceEqDiff, Nat.reduceLeDiff, ↓reduceIte, List.length_cons, List.length_nil, List.getElem?_cons_zero, List.getElem?_cons_succ, if_true, if_false, Ck_pos, List.all_cons, List.all_nil, Bool.and_self, Bool.and_true, Bool.true_and, beq_self_eq_true, eq_self, Bool.not_true, Bool.not_false, decide_true, decide_false, and_self, true_and, and_true, List.drop_zero, List.drop_succ_cons, List.take_succ_cons, List.take_zero, List.take_nil, List.drop_nil, List.cons_append, List.nil_append, List.append_nil, Int.toNat_natCast, List.length_map, Nat.le_refl, Nat.zero_add, Nat.sub_zero, Nat.add_zero, take_full, List.replicate_succ, List.replicate_zero, List.set_cons_zero, List.set_cons_succ, Option.some.injEq, FV.bool.injEq, FV.int.injEq, most, deep, wrap64, wrapu64, wrapu8, wrapi8]
    unfold runS
    rw [if_pos hk, if_pos hl, hos, hns, List.take_of_length_le (by omega)]
    rfl
  | succ k ih =>
    intro i n os hi hos hn
    have : (i : Int) < outs.length := by omega
    have hol : os.length = i := by rw [hos]; simp; omega
    have gi := hg.2.2 i (by omega)
    unfold goodO at gi
    simp (disch := first | omega | (simp only [List.length_append, List.length_map, List.length_cons, List.length_nil, List.length_replicate, List.length_drop, List.length_take]; omega) | (simp only [hget_c, Nat.reduceEqDiff, ↓reduceIte]; done) | assumption | (simp (disch := omega) only [hg_ne, hg_eq, hgs_ne, *]; done) | (simp only [LAWS, pu5, pu6]; done) | with_unfolding_all rfl) only [unf b12_1.eq_1, c12, circV, this, LAWS, LAWS3, lim21, c21, tdiv_nn, tmod_nn, EV1, EV2, EV3, EV4, w_lp1, w_lp0, ca_0, ca_s, Nat.reduceAdd, Nat.reduceSub, Int.reduceToNat, Nat.reduceMul, Nat.reduceEqDiff, Nat.reduceLeDiff, ↓reduceIte, List.length_cons, List.length_nil, List.getElem?_cons_zero, List.getElem?_cons_succ, if_true, if_false, Ck_pos, List.all_cons, List.all_nil, Bool.and_self, Bool.and_true, Bool.true_and, beq_self_eq_true, eq_self, Bool.not_true, Bool.not_false, decide_true, decide_false, and_self, true_and, and_true, List.drop_zero, List.drop_succ_cons, List.take_succ_cons, List.take_zero, List.take_nil, List.drop_nil, List.cons_append, List.nil_append, List.append_nil, Int.toNat_natCast, List.length_map, Nat.le_refl, Nat.zero_add, Nat.sub_zero, Nat.add_zero, take_full, List.replicate_succ, List.replicate_zero, List.set_cons_zero, List.set_cons_succ, Option.some.injEq, FV.bool.injEq, FV.int.injEq, most, deep, wrap64, wrapu64, wrapu8, wrapi8]
    rw [snocB]
    refine Ok_inL (by decide) (by simp [lowTm, low, lows, LAWS, LAWS3]) (by simp [cutH, lowHeap, lowObj, lows, low, LAWS, LAWS3, circV, lows_app]) (ih (i + 1) _ _ (by omega) ?_ (by simp; omega))
    rw [hos, ← take_snoc outs i 0 (by omega)]
    simp [litB, bne]
theorem c12_loop1 {e1 e2 e3} (ins : In) (gs : Ga) (outs : List Int) (inb : List Bool) (hs : Small ins gs outs) (hl : inb.length = ins.length) (hk : chkS ins gs outs = 0) : ∀ (k i n : Nat) (ns : List Bool), i + k = gs.length → ns = nodesS inb gs i → n = ns.length →
    @Ok Out (runs T [.code b12_0, .inL (some 25) b12_0, .inB 0, .code k12_3] [(2, .ptr 0 1 0 0), (7, .ptr 17 1 0 0), (8, .fn 21 [.ptr 17 1 0 0]), (30, .lst e2 (gs.map gateV)), (31, .int .i64 gs.length), (32, .int .i64 i)] [(17, .row 1 [.sref 1 14 n 0 n]), (14, .row 1 (ns.map .bool)), (0, .row 3 [circV e1 e2 e3 ins gs outs])] 25) ⟨fun x => resV c12.res x = some (runS false ins gs outs inb)⟩ := by
  have hg := chk_good' hk
  obtain ⟨h1, h2, h3⟩ := id hs
  intro k
  induction k with
  | zero =>
    intro i n ns hi hns hn
    have : ¬ (i : Int) < gs.length := by omega
    have hlen := nodesS_len inb gs i
    rw [← hns] at hlen
    simp (disch := first | omega | (simp only [List.length_append, List.length_map, List.length_cons, List.length_nil, List.length_replicate, List.length_drop, List.length_take]; omega) | (simp only [hget_c, Nat.reduceEqDiff, ↓reduceIte]; done) | assumption | (simp (disch := omega) only [hg_ne, hg_eq, hgs_ne, *]; done) | (simp only [LAWS, pu5, pu6]; done) | with_unfolding_all rfl) only [unf b12_0.eq_1, unf k12_3.eq_1, c12, circV, this, LAWS, LAWS3, EV1, EV2, EV3, EV4, w_lp1, w_lp0, ca_0, ca_s, Nat.reduceAdd, Nat.reduceSub, Int.reduceToNat, Nat.reduceMul, Nat.reduceEqDiff, Nat.reduceLeDiff, ↓reduceIte, List.length_cons, List.length_nil, List.getElem?_cons_zero, List.getElem?_cons_succ, if_true, if_false, Ck_pos, List.all_cons, List.all_nil, Bool.and_self, Bool.and_true, Bool.true_and, beq_self_eq_true, eq_self, Bool.not_true, Bool.not_false, decide_true, decide_false, and_self, true_and, and_true, List.drop_zero, List.drop_succ_cons, List.take_succ_cons, List.take_zero, List.take_nil, List.drop_nil, List.cons_append, List.nil_append, List.append_nil, Int.toNat_natCast, List.length_map, Nat.le_refl, Nat.zero_add, Nat.sub_zero, Nat.add_zero, take_full, List.replicate_succ, List.replicate_zero, List.set_cons_zero, List.set_cons_succ, Option.some.injEq, FV.bool.injEq, FV.int.injEq, most, deep, wrap64, wrapu64, wrapu8, wrapi8]
    subst hns
    have hi' : i = gs.length := by omega
    subst hi'
    refine c12_loop2 ins gs outs inb hs hl hk _ rfl n hn outs.length 0 0 [] (by omega) (by simp) rfl
  | succ k ih =>
    intro i n ns hi hns hn
    have : (i : Int) < gs.length := by omega
    have hlen := nodesS_len inb gs i
    rw [← hns] at hlen
    have gi := hg.2.1 i (by omega)
    unfold goodG at gi
    have e : ∀ b, b = (litB ns (gs.getD i (0, 0)).1 && litB ns (gs.getD i (0, 0)).2) → ns ++ [b] = nodesS inb gs (i + 1) := fun b hb => by
      rw [hb, hns]; rfl
    simp (disch := first | omega | (simp only [List.length_append, List.length_map, List.length_cons, List.length_nil, List.length_replicate, List.length_drop, List.length_take]; omega) | (simp only [hget_c, Nat.reduceEqDiff, ↓reduceIte]; done) | assumption | (simp (disch := omega) only [hg_ne, hg_eq, hgs_ne, *]; done) | (simp only [LAWS, pu5, pu6]; done) | with_unfolding_all rfl) only [unf b12_0.eq_1, c12, circV, this, LAWS, LAWS3, lim21, c21, tdiv_nn, tmod_nn, EV1, EV2, EV3, EV4, w_lp1, w_lp0, ca_0, ca_s, Nat.reduceAdd, Nat.reduceSub, Int.reduceToNat, Nat.reduceMul, Nat.reduceEqDiff, Nat.reduceLeDiff, ↓reduceIte, List.length_cons, List.length_nil, List.getElem?_cons_zero, List.getElem?_cons_succ, if_true, if_false, Ck_pos, List.all_cons, List.all_nil, Bool.and_self, Bool.and_true, Bool.true_and, beq_self_eq_true, eq_self, Bool.not_true, Bool.not_false, decide_true, decide_false, and_self, true_and, and_true, List.drop_zero, List.drop_succ_cons, List.take_succ_cons, List.take_zero, List.take_nil, List.drop_nil, List.cons_append, List.nil_append, List.append_nil, Int.toNat_natCast, List.length_map, Nat.le_refl, Nat.zero_add, Nat.sub_zero, Nat.add_zero, take_full, List.replicate_succ, List.replicate_zero, List.set_cons_zero, List.set_cons_succ, Option.some.injEq, FV.bool.injEq, FV.int.injEq, most, deep, wrap64, wrapu64, wrapu8, wrapi8]
    repeat' (refine Ok_if (fun hb => ?_) (fun hb => ?_) <;> have h := hb <;> (try simp only [decide_eq_true_eq, decide_eq_false_iff_not, Int.not_lt, Int.not_le] at h) <;> (simp (disch := first | omega | (simp only [List.length_append, List.length_map, List.length_cons, List.length_nil, List.length_replicate, List.length_drop, List.length_take]; omega) | (simp only [hget_c, Nat.reduceEqDiff, ↓reduceIte]; done) | assumption | (simp (disch := omega) only [hg_ne, hg_eq, hgs_ne, *]; done) | (simp only [LAWS, pu5, pu6]; done) | with_unfolding_all rfl) only [hb, c12, circV, LAWS, LAWS3, lim21, c21, tdiv_nn, tmod_nn, EV1, EV2, EV3, EV4, w_lp1, w_lp0, ca_0, ca_s, Nat.reduceAdd, Nat.reduceSub, Int.reduceToNat, Nat.reduceMul, Nat.reduceEqDiff, Nat.reduceLeDiff, ↓reduceIte, List.length_cons, List.length_nil, List.getElem?_cons_zero, List.getElem?_cons_succ, if_true, if_false, Ck_pos, List.all_cons, List.all_nil, Bool.and_self, Bool.and_true, Bool.true_and, beq_self_eq_true, eq_self, Bool.not_true, Bool.not_false, decide_true, decide_false, and_self, true_and, and_true, List.drop_zero, List.drop_succ_cons, List.take_succ_cons, List.take_zero, List.take_nil, List.drop_nil, List.cons_append, List.nil_append, List.append_nil, Int.toNat_natCast, List.length_map, Nat.le_refl, Nat.zero_add, Nat.sub_zero, Nat.add_zero, take_full, List.replicate_succ, List.replicate_zero, List.set_cons_zero, List.set_cons_succ, Option.some.injEq, FV.bool.injEq, FV.int.injEq, most, deep, wrap64, wrapu64, wrapu8, wrapi8]) <;> (try clear hb))
    all_goals rw [snocB]
    all_goals refine Ok_inL (by decide) (by simp [lowTm, low, lows, LAWS, LAWS3]) (by simp [cutH, lowHeap, lowObj, lows, low, LAWS, LAWS3, circV, lows_app]) (ih (i + 1) _ _ (by omega) (e _ ?_) (by simp; omega))
    all_goals simp_all [litB, bne]
theorem run_spec {e1 e2 e3 e ins gs outs} (inb : List Bool) (hs : Small ins gs outs) (hl : inb.length ≤ 700) : ∀ h nx, lim T 12 [circV e1 e2 e3 ins gs outs, .lst e (inb.map .bool)] h nx = some (runS false ins gs outs inb, h, nx) := by
  have c1 := @check_spec e1 e2 e3 ins gs outs hs
  unfold circV at c1
  obtain ⟨h1, h2, h3⟩ := id hs
  refine lim_iso tg12 rfl rfl (by simp [pures, pure_circ, pure_, pu5]) ?_
  simp (disch := first | omega | (simp only [List.length_append, List.length_map, List.length_cons, List.length_nil, List.length_replicate, List.length_drop, List.length_take]; omega) | (simp only [hget_c, Nat.reduceEqDiff, ↓reduceIte]; done) | assumption | (simp (disch := omega) only [hg_ne, hg_eq, hgs_ne, *]; done) | (simp only [LAWS, pu5, pu6]; done) | with_unfolding_all rfl) only [c12, circV, c1, EV1, EV2, EV3, EV4, w_lp1, w_lp0, ca_0, ca_s, Nat.reduceAdd, Nat.reduceSub, Int.reduceToNat, Nat.reduceMul, Nat.reduceEqDiff, Nat.reduceLeDiff, ↓reduceIte, List.length_cons, List.length_nil, List.getElem?_cons_zero, List.getElem?_cons_succ, if_true, if_false, Ck_pos, List.all_cons, List.all_nil, Bool.and_self, Bool.and_true, Bool.true_and, beq_self_eq_true, eq_self, Bool.not_true, Bool.not_false, decide_true, decide_false, and_self, true_and, and_true, List.drop_zero, List.drop_succ_cons, List.take_succ_cons, List.take_zero, List.take_nil, List.drop_nil, List.cons_append, List.nil_append, List.append_nil, Int.toNat_natCast, List.length_map, Nat.le_refl, Nat.zero_add, Nat.sub_zero, Nat.add_zero, take_full, List.replicate_succ, List.replicate_zero, List.set_cons_zero, List.set_cons_succ, Option.some.injEq, FV.bool.injEq, FV.int.injEq, most, deep, wrap64, wrapu64, wrapu8, wrapi8]
  repeat' (refine Ok_if (fun hb => ?_) (fun hb => ?_) <;> have h := hb <;> (try simp only [decide_eq_true_eq, decide_eq_false_iff_not, Int.not_lt, Int.not_le] at h) <;> (simp (disch := first | omega | (simp only [List.length_append, List.length_map, List.length_cons, List.length_nil, List.length_replicate, List.length_drop, List.length_take]; omega) | (simp only [hget_c, Nat.reduceEqDiff, ↓reduceIte]; done) | assumption | (simp (disch := omega) only [hg_ne, hg_eq, hgs_ne, *]; done) | (simp only [LAWS, pu5, pu6]; done) | with_unfolding_all rfl) only [hb, c12, LAWS3, EV1, EV2, EV3, EV4, w_lp1, w_lp0, ca_0, ca_s, Nat.reduceAdd, Nat.reduceSub, Int.reduceToNat, Nat.reduceMul, Nat.reduceEqDiff, Nat.reduceLeDiff, ↓reduceIte, List.length_cons, List.length_nil, List.getElem?_cons_zero, List.getElem?_cons_succ, if_true, if_false, Ck_pos, List.all_cons, List.all_nil, Bool.and_self, Bool.and_true, Bool.true_and, beq_self_eq_true, eq_self, Bool.not_true, Bool.not_false, decide_true, decide_false, and_self, true_and, and_true, List.drop_zero, List.drop_succ_cons, List.take_succ_cons, List.take_zero, List.take_nil, List.drop_nil, List.cons_append, List.nil_append, List.append_nil, Int.toNat_natCast, List.length_map, Nat.le_refl, Nat.zero_add, Nat.sub_zero, Nat.add_zero, take_full, List.replicate_succ, List.replicate_zero, List.set_cons_zero, List.set_cons_succ, Option.some.injEq, FV.bool.injEq, FV.int.injEq, most, deep, wrap64, wrapu64, wrapu8, wrapi8]) <;> (try clear hb))
  · exact c12_loop1 ins gs outs inb hs (by omega) (by assumption) gs.length 0 _ (false :: inb) (by omega) rfl (by simp; omega)
  · unfold runS; rw [if_pos (by assumption), if_neg (by omega)]
  · unfold runS; rw [if_neg (by assumption)]
end Go.Proofs.Ythjgmhpgplhkgaa.Fi

