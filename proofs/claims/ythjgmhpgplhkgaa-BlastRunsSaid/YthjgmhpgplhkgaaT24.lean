/- A part of the proof: see the last text. -/
import Derived.Test.YthjgmhpgplhkgaaT23
set_option linter.unusedSimpArgs false
set_option linter.unusedVariables false
namespace Go.Proofs.Ythjgmhpgplhkgaa.Fi
open Go.FI
theorem tg14 : tget T 14 = some (.fn c14) := by rfl
theorem tg15 : tget T 15 = some (.fn c15) := by rfl
theorem tg11 : tget T 11 = some (.fn c11) := by rfl
theorem tg4 : tget T 4 = some (.fn c4) := by rfl
def bitS (b k : Int) : Bool := decide ((b / 2 ^ k.toNat) % 2 = 1)
def oneS (env : Env) (p : List UInt8 × Int) : Int ⊕ Bool :=
  match boundS env p.1 with
  | none => .inl 16
  | some q => if q.2.1 ≤ p.2 then .inl 2 else .inr (bitS q.2.2 p.2)
def inS (env : Env) : In → List Bool → FV
  | [], acc => .tup [.lst false (acc.map .bool), .int .i64 0]
  | p :: r, acc => match oneS env p with
    | .inl c => .tup [.lst true [], .int .i64 c]
    | .inr b => inS env r (acc ++ [b])
theorem inS_cons {env : Env} {p : List UInt8 × Int} {r : In} {acc : List Bool} : inS env (p :: r) acc = match oneS env p with | .inl c => .tup [.lst true [], .int .i64 c] | .inr b => inS env r (acc ++ [b]) := rfl
open Classical in
noncomputable def inputsS (ins : In) (gs : Ga) (outs : List Int) (env : Env) : FV :=
  if chkS ins gs outs = 0 then if chkB env = 0 then inS env ins [] else .tup [.lst true [], .int .i64 8]
  else .tup [.lst true [], .int .i64 (chkS ins gs outs)]
theorem chkB_good {env : Env} (h : chkB env = 0) : env.length ≤ 1000 ∧ ∀ i, i < env.length → goodB env i := by
  unfold chkB at h
  split at h
  · assumption
  · cases h
theorem chkB_bad {env : Env} (h : ¬ chkB env = 0) : chkB env = 8 := by
  unfold chkB at h ⊢
  split at h
  · exact absurd rfl h
  · rename_i hn; rw [if_neg hn]
theorem mono_of {env : Env} (h : ∀ i, i < env.length → goodB env i) : ∀ a b, a < b → b < env.length → Op.bytesLess (nm env a) (nm env b) = true := by
  intro a b hab hb
  induction b with
  | zero => omega
  | succ b ih =>
    have := (h (b + 1) hb).2.2 (by omega)
    simp only [Nat.add_sub_cancel] at this
    by_cases e : a = b
    · rw [e]; exact this
    · exact bl_trans (ih (by omega) (by omega)) this
theorem drop_cons {α : Type} (l : List α) (i : Nat) (d : α) (h : i < l.length) : l.drop i = l.getD i d :: l.drop (i + 1) := by
  rw [List.drop_eq_getElem_cons h]
  simp [List.getD, h]
theorem bound_at {env : Env} (mono : ∀ a b, a < b → b < env.length → Op.bytesLess (nm env a) (nm env b) = true) {s : List UInt8} {i : Nat} (lo : ∀ k, k < i → Op.bytesLess (nm env k) s = true) (hi : ∀ k, i ≤ k → k < env.length → ¬ Op.bytesLess (nm env k) s = true) :
    boundS env s = if i < env.length ∧ (env.getD i ([], 0, 0)).1 = s then some (env.getD i ([], 0, 0)) else none := by
  have ne : ∀ k, k < i → ¬ nm env k = s := fun k hk e => by have := lo k hk; rw [e, bl_irr] at this; cases this
  split
  · rename_i h
    exact find_at env s i h.1 ne h.2
  · rename_i h
    refine find_no env s fun k hk e => ?_
    by_cases h1 : k < i
    · exact ne k h1 e
    · by_cases h2 : k = i
      · subst h2; exact h ⟨hk, e⟩
      · have := hi i (by omega) (by omega)
        rw [← e] at this
        exact this (mono i k (by omega) hk)
theorem c14_loop {e1 e2 e3 e} (ins : In) (gs : Ga) (outs : List Int) (env : Env) (hs : Small ins gs outs) (hl : env.length ≤ 1100) (hx : ∀ i, 0 ≤ (env.getD i ([], 0, 0)).2.2 ∧ (env.getD i ([], 0, 0)).2.2 ≤ 18446744073709551615) (hk : chkS ins gs outs = 0) (hb : chkB env = 0) : ∀ (k i n : Nat) (os : List Bool), i + k = ins.length → n = os.length → os.length = i →
    @Ok Out (runs T [.code b14_0, .inL (some 18) b14_0, .inB 0, .code k14_1] [(1, .lst e (env.map bdV)), (8, .sref 1 13 n 0 n), (24, .lst e1 (ins.map inV)), (25, .int .i64 ins.length), (26, .int .i64 i)] [(13, .row 1 (os.map .bool)), (0, .row 3 [circV e1 e2 e3 ins gs outs])] 18) ⟨fun x => resV c14.res x = some (inS env (ins.drop i) os)⟩ := by
  obtain ⟨h1, h2, h3⟩ := id hs
  obtain ⟨hg, _⟩ := chk_good' hk
  have mono := mono_of (chkB_good hb).2
  intro k
  induction k with
  | zero =>
    intro i n os hi hn hol
    have : ¬ (i : Int) < ins.length := by omega
    simp (disch := first | omega | (simp only [List.length_append, List.length_map, List.length_cons, List.length_nil, List.length_replicate, List.length_drop, List.length_take]; omega) | (simp only [hget_c, Nat.reduceEqDiff, ↓reduceIte]; done) | assumption | (simp (disch := omega) only [hg_ne, hg_eq, hgs_ne, *]; done) | (simp only [LAWS, pu5, pu6, pu7]; done) | with_unfolding_all rfl) only [unf b14_0.eq_1, unf k14_1.eq_1, c14, circV, this, LAWS, LAWS3, LAWS4, EV1, EV2, EV3, EV4, w_lp1, w_lp0, ca_0, ca_s, Nat.reduceAdd, Nat.reduceSub, Int.reduceToNat, Nat.reduceMul, Nat.reduceEqDiff, Nat.reduceLeDiff, Int.reduceEq, Int.reduceLT, Int.reduceLE, ↓reduceIte, List.length_cons, List.length_nil, List.getElem?_cons_zero, List.getElem?_cons_succ, if_true, if_false, Ck_pos, List.all_cons, List.all_nil, Bool.and_self, Bool.and_true, Bool.true_and, beq_self_eq_true, eq_self, Bool.not_true, Bool.not_false, decide_true, decide_false, and_self, true_and, and_true, List.drop_zero, List.drop_succ_cons, List.take_succ_cons, List.take_zero, List.take_nil, List.drop_nil, List.cons_append, List.nil_append, List.append_nil, Int.toNat_natCast, List.length_map, Nat.le_refl, Nat.zero_add, Nat.sub_zero, Nat.add_zero, take_full, List.replicate_succ, List.replicate_zero, List.set_cons_zero, List.set_cons_succ, Option.some.injEq, FV.bool.injEq, FV.int.injEq, most, deep, wrap64, wrapu64, wrapu8, wrapi8]
    rw [List.drop_eq_nil_of_le (by omega)]
    rfl
  | succ k ih =>
    intro i n os hi hn hol
    have : (i : Int) < ins.length := by omega
    obtain ⟨_, g2, g3, _⟩ := hg i (by omega)
    obtain ⟨r, ⟨j, hj, lo, hi', rfl⟩, hr⟩ := search_spec e env (ins.getD i ([], 0)).1 hl mono
    have hbd := bound_at mono lo hi'
    rw [drop_cons ins i ([], 0) (by omega), inS_cons]
    have hxj := hx j
    have hsh : shr .u64 (env.getD j ([], 0, 0)).2.2 (ins.getD i ([], 0)).2 = (env.getD j ([], 0, 0)).2.2 / 2 ^ (ins.getD i ([], 0)).2.toNat := by
      rw [shr_div g2, Nat.min_eq_left (by show _ ≤ 64; omega)]
    have hq0 : 0 ≤ (env.getD j ([], 0, 0)).2.2 / 2 ^ (ins.getD i ([], 0)).2.toNat := Int.ediv_nonneg hxj.1 (Int.pow_nonneg (by decide))
    have hq1 : (env.getD j ([], 0, 0)).2.2 / 2 ^ (ins.getD i ([], 0)).2.toNat ≤ 18446744073709551615 := Int.le_trans (Int.ediv_le_self _ hxj.1) hxj.2
    by_cases hc : j < env.length ∧ (env.getD j ([], 0, 0)).1 = (ins.getD i ([], 0)).1
    · rw [if_pos hc] at hbd
      by_cases hw : (env.getD j ([], 0, 0)).2.1 ≤ (ins.getD i ([], 0)).2
      · have ho : oneS env (ins.getD i ([], 0)) = .inl 2 := by unfold oneS; rw [hbd]; exact if_pos hw
        rw [ho]
        simp (disch := first | omega | (simp only [List.length_append, List.length_map, List.length_cons, List.length_nil, List.length_replicate, List.length_drop, List.length_take]; omega) | (simp only [hget_c, Nat.reduceEqDiff, ↓reduceIte]; done) | assumption | (simp (disch := omega) only [hg_ne, hg_eq, hgs_ne, *]; done) | (simp only [LAWS, pu5, pu6, pu7]; done) | with_unfolding_all rfl) only [unf b14_0.eq_1, c14, circV, this, LAWS, LAWS3, LAWS4, hr, hc, hw, EV1, EV2, EV3, EV4, w_lp1, w_lp0, ca_0, ca_s, Nat.reduceAdd, Nat.reduceSub, Int.reduceToNat, Nat.reduceMul, Nat.reduceEqDiff, Nat.reduceLeDiff, Int.reduceEq, Int.reduceLT, Int.reduceLE, ↓reduceIte, List.length_cons, List.length_nil, List.getElem?_cons_zero, List.getElem?_cons_succ, if_true, if_false, Ck_pos, List.all_cons, List.all_nil, Bool.and_self, Bool.and_true, Bool.true_and, beq_self_eq_true, eq_self, Bool.not_true, Bool.not_false, decide_true, decide_false, and_self, true_and, and_true, List.drop_zero, List.drop_succ_cons, List.take_succ_cons, List.take_zero, List.take_nil, List.drop_nil, List.cons_append, List.nil_append, List.append_nil, Int.toNat_natCast, List.length_map, Nat.le_refl, Nat.zero_add, Nat.sub_zero, Nat.add_zero, take_full, List.replicate_succ, List.replicate_zero, List.set_cons_zero, List.set_cons_succ, Option.some.injEq, FV.bool.injEq, FV.int.injEq, most, deep, wrap64, wrapu64, wrapu8, wrapi8]
      · have ho : oneS env (ins.getD i ([], 0)) = .inr (bitS (env.getD j ([], 0, 0)).2.2 (ins.getD i ([], 0)).2) := by unfold oneS; rw [hbd]; exact if_neg hw
        rw [ho]
        simp (disch := first | omega | (simp only [List.length_append, List.length_map, List.length_cons, List.length_nil, List.length_replicate, List.length_drop, List.length_take]; omega) | (simp only [hget_c, Nat.reduceEqDiff, ↓reduceIte]; done) | assumption | (simp (disch := omega) only [hg_ne, hg_eq, hgs_ne, *]; done) | (simp only [LAWS, pu5, pu6, pu7]; done) | with_unfolding_all rfl) only [unf b14_0.eq_1, c14, circV, this, LAWS, LAWS3, LAWS4, hr, hc, hw, hsh, band1, EV1, EV2, EV3, EV4, w_lp1, w_lp0, ca_0, ca_s, Nat.reduceAdd, Nat.reduceSub, Int.reduceToNat, Nat.reduceMul, Nat.reduceEqDiff, Nat.reduceLeDiff, Int.reduceEq, Int.reduceLT, Int.reduceLE, ↓reduceIte, List.length_cons, List.length_nil, List.getElem?_cons_zero, List.getElem?_cons_succ, if_true, if_false, Ck_pos, List.all_cons, List.all_nil, Bool.and_self, Bool.and_true, Bool.true_and, beq_self_eq_true, eq_self, Bool.not_true, Bool.not_false, decide_true, decide_false, and_self, true_and, and_true, List.drop_zero, List.drop_succ_cons, List.take_succ_cons, List.take_zero, List.take_nil, List.drop_nil, List.cons_append, List.nil_append, List.append_nil, Int.toNat_natCast, List.length_map, Nat.le_refl, Nat.zero_add, Nat.sub_zero, Nat.add_zero, take_full, List.replicate_succ, List.replicate_zero, List.set_cons_zero, List.set_cons_succ, Option.some.injEq, FV.bool.injEq, FV.int.injEq, most, deep, wrap64, wrapu64, wrapu8, wrapi8]
        rw [snocB]
        exact Ok_inL (by decide) (by simp [lowTm, low, lows, LAWS, LAWS4]) (by simp [cutH, lowHeap, lowObj, lows, low, LAWS, LAWS3, circV, lows_app]) (ih (i + 1) _ (os ++ [bitS (env.getD j ([], 0, 0)).2.2 (ins.getD i ([], 0)).2]) (by omega) (by simp; omega) (by simp; omega))
    · rw [if_neg hc] at hbd
      have ho : oneS env (ins.getD i ([], 0)) = .inl 16 := by unfold oneS; rw [hbd]
      rw [ho]
      simp (disch := first | omega | (simp only [List.length_append, List.length_map, List.length_cons, List.length_nil, List.length_replicate, List.length_drop, List.length_take]; omega) | (simp only [hget_c, Nat.reduceEqDiff, ↓reduceIte]; done) | assumption | (simp (disch := omega) only [hg_ne, hg_eq, hgs_ne, *]; done) | (simp only [LAWS, pu5, pu6, pu7]; done) | with_unfolding_all rfl) only [unf b14_0.eq_1, c14, circV, this, LAWS, LAWS3, LAWS4, hr, hc, EV1, EV2, EV3, EV4, w_lp1, w_lp0, ca_0, ca_s, Nat.reduceAdd, Nat.reduceSub, Int.reduceToNat, Nat.reduceMul, Nat.reduceEqDiff, Nat.reduceLeDiff, Int.reduceEq, Int.reduceLT, Int.reduceLE, ↓reduceIte, List.length_cons, List.length_nil, List.getElem?_cons_zero, List.getElem?_cons_succ, if_true, if_false, Ck_pos, List.all_cons, List.all_nil, Bool.and_self, Bool.and_true, Bool.true_and, beq_self_eq_true, eq_self, Bool.not_true, Bool.not_false, decide_true, decide_false, and_self, true_and, and_true, List.drop_zero, List.drop_succ_cons, List.take_succ_cons, List.take_zero, List.take_nil, List.drop_nil, List.cons_append, List.nil_append, List.append_nil, Int.toNat_natCast, List.length_map, Nat.le_refl, Nat.zero_add, Nat.sub_zero, Nat.add_zero, take_full, List.replicate_succ, List.replicate_zero, List.set_cons_zero, List.set_cons_succ, Option.some.injEq, FV.bool.injEq, FV.int.injEq, most, deep, wrap64, wrapu64, wrapu8, wrapi8]
theorem inputs_spec {e1 e2 e3 e ins gs outs} (env : Env) (hs : Small ins gs outs) (hl : env.length ≤ 1100) (hx : ∀ i, 0 ≤ (env.getD i ([], 0, 0)).2.2 ∧ (env.getD i ([], 0, 0)).2.2 ≤ 18446744073709551615) : ∀ h nx, lim T 14 [circV e1 e2 e3 ins gs outs, .lst e (env.map bdV)] h nx = some (inputsS ins gs outs env, h, nx) := by
  have c1 := @check_spec e1 e2 e3 ins gs outs hs
  have c2 := checkB_spec e env hl
  unfold circV at c1
  obtain ⟨h1, h2, h3⟩ := id hs
  refine lim_iso tg14 rfl rfl (by simp [pures, pure_circ, pure_, pu7]) ?_
  unfold inputsS
  by_cases hk : chkS ins gs outs = 0
  · rw [if_pos hk]
    by_cases hb : chkB env = 0
    · rw [if_pos hb]
      simp (disch := first | omega | (simp only [List.length_append, List.length_map, List.length_cons, List.length_nil, List.length_replicate, List.length_drop, List.length_take]; omega) | (simp only [hget_c, Nat.reduceEqDiff, ↓reduceIte]; done) | assumption | (simp (disch := omega) only [hg_ne, hg_eq, hgs_ne, *]; done) | (simp only [LAWS, pu5, pu6, pu7]; done) | with_unfolding_all rfl) only [c14, circV, c1, c2, hk, hb, EV1, EV2, EV3, EV4, w_lp1, w_lp0, ca_0, ca_s, Nat.reduceAdd, Nat.reduceSub, Int.reduceToNat, Nat.reduceMul, Nat.reduceEqDiff, Nat.reduceLeDiff, Int.reduceEq, Int.reduceLT, Int.reduceLE, ↓reduceIte, List.length_cons, List.length_nil, List.getElem?_cons_zero, List.getElem?_cons_succ, if_true, if_false, Ck_pos, List.all_cons, List.all_nil, Bool.and_self, Bool.and_true, Bool.true_and, beq_self_eq_true, eq_self, Bool.not_true, Bool.not_false, decide_true, decide_false, and_self, true_and, and_true, List.drop_zero, List.drop_succ_cons, List.take_succ_cons, List.take_zero, List.take_nil, List.drop_nil, List.cons_append, List.nil_append, List.append_nil, Int.toNat_natCast, List.length_map, Nat.le_refl, Nat.zero_add, Nat.sub_zero, Nat.add_zero, take_full, List.replicate_succ, List.replicate_zero, List.set_cons_zero, List.set_cons_succ, Option.some.injEq, FV.bool.injEq, FV.int.injEq, most, deep, wrap64, wrapu64, wrapu8, wrapi8]
      exact c14_loop ins gs outs env hs hl hx hk hb ins.length 0 0 [] (by omega) rfl rfl
    · rw [if_neg hb]
      have hb' := chkB_bad hb
      simp (disch := first | omega | (simp only [List.length_append, List.length_map, List.length_cons, List.length_nil, List.length_replicate, List.length_drop, List.length_take]; omega) | (simp only [hget_c, Nat.reduceEqDiff, ↓reduceIte]; done) | assumption | (simp (disch := omega) only [hg_ne, hg_eq, hgs_ne, *]; done) | (simp only [LAWS, pu5, pu6, pu7]; done) | with_unfolding_all rfl) only [c14, circV, c1, c2, hk, hb', EV1, EV2, EV3, EV4, w_lp1, w_lp0, ca_0, ca_s, Nat.reduceAdd, Nat.reduceSub, Int.reduceToNat, Nat.reduceMul, Nat.reduceEqDiff, Nat.reduceLeDiff, Int.reduceEq, Int.reduceLT, Int.reduceLE, ↓reduceIte, List.length_cons, List.length_nil, List.getElem?_cons_zero, List.getElem?_cons_succ, if_true, if_false, Ck_pos, List.all_cons, List.all_nil, Bool.and_self, Bool.and_true, Bool.true_and, beq_self_eq_true, eq_self, Bool.not_true, Bool.not_false, decide_true, decide_false, and_self, true_and, and_true, List.drop_zero, List.drop_succ_cons, List.take_succ_cons, List.take_zero, List.take_nil, List.drop_nil, List.cons_append, List.nil_append, List.append_nil, Int.toNat_natCast, List.length_map, Nat.le_refl, Nat.zero_add, Nat.sub_zero, Nat.add_zero, take_full, List.replicate_succ, List.replicate_zero, List.set_cons_zero, List.set_cons_succ, Option.some.injEq, FV.bool.injEq, FV.int.injEq, most, deep, wrap64, wrapu64, wrapu8, wrapi8]
  · rw [if_neg hk]
    simp (disch := first | omega | (simp only [List.length_append, List.length_map, List.length_cons, List.length_nil, List.length_replicate, List.length_drop, List.length_take]; omega) | (simp only [hget_c, Nat.reduceEqDiff, ↓reduceIte]; done) | assumption | (simp (disch := omega) only [hg_ne, hg_eq, hgs_ne, *]; done) | (simp only [LAWS, pu5, pu6, pu7]; done) | with_unfolding_all rfl) only [c14, circV, c1, hk, EV1, EV2, EV3, EV4, w_lp1, w_lp0, ca_0, ca_s, Nat.reduceAdd, Nat.reduceSub, Int.reduceToNat, Nat.reduceMul, Nat.reduceEqDiff, Nat.reduceLeDiff, Int.reduceEq, Int.reduceLT, Int.reduceLE, ↓reduceIte, List.length_cons, List.length_nil, List.getElem?_cons_zero, List.getElem?_cons_succ, if_true, if_false, Ck_pos, List.all_cons, List.all_nil, Bool.and_self, Bool.and_true, Bool.true_and, beq_self_eq_true, eq_self, Bool.not_true, Bool.not_false, decide_true, decide_false, and_self, true_and, and_true, List.drop_zero, List.drop_succ_cons, List.take_succ_cons, List.take_zero, List.take_nil, List.drop_nil, List.cons_append, List.nil_append, List.append_nil, Int.toNat_natCast, List.length_map, Nat.le_refl, Nat.zero_add, Nat.sub_zero, Nat.add_zero, take_full, List.replicate_succ, List.replicate_zero, List.set_cons_zero, List.set_cons_succ, Option.some.injEq, FV.bool.injEq, FV.int.injEq, most, deep, wrap64, wrapu64, wrapu8, wrapi8]
theorem c15_in {e1 e2 e3 e} (ins : In) (gs : Ga) (outs : List Int) (env : Env) (os : List Bool) (n i m : Nat) (q : List UInt8 × Int × Int) (hs : Small ins gs outs) (hi : i < ins.length) (hn : n = os.length) (hol : os.length ≤ 1000) (hb0 : 0 ≤ q.2.2) (hb1 : q.2.2 ≤ 18446744073709551615) (hm : (ins.getD i ([], 0)).2 = m) (hm' : m ≤ 63) (Q : FV)
    (next : @Ok Out (runs T [.code b15_3, .inL (some 11) b15_3, .inB 0, .code k15_4] [(1, .lst e (env.map bdV)), (2, .ptr 0 1 0 0), (6, .sref 1 9 (n + 1) 0 (n + 1)), (7, .int .i64 ((i + 1 : Nat) : Int))] [(9, .row 1 ((os ++ [bitS q.2.2 (ins.getD i ([], 0)).2]).map .bool)), (0, .row 3 [circV e1 e2 e3 ins gs outs])] 11) ⟨fun x => resV c15.res x = some Q⟩) :
    ∀ (k j : Nat), j + k = m →
    @Ok Out (runs T [.code b15_0, .inL (some 45) b15_0, .inB 2, .code k15_1, .inB 1, .code k15_2, .inL (some 11) b15_3, .inB 0, .code k15_4] [(1, .lst e (env.map bdV)), (2, .ptr 0 1 0 0), (6, .sref 1 9 n 0 n), (7, .int .i64 i), (10, .int .u64 (q.2.2 / 2 ^ j)), (11, .int .i64 j)] [(27, .row 3 [.agg [.str q.1, .int .i64 q.2.1, .int .u64 q.2.2]]), (9, .row 1 (os.map .bool)), (0, .row 3 [circV e1 e2 e3 ins gs outs])] 45) ⟨fun x => resV c15.res x = some Q⟩ := by
  obtain ⟨h1, h2, h3⟩ := id hs
  have hi0 : (i : Int) < ins.length := by omega
  intro k
  induction k with
  | zero =>
    intro j hj
    have hq0 : 0 ≤ q.2.2 / 2 ^ j := Int.ediv_nonneg hb0 (Int.pow_nonneg (by decide))
    have : ¬ (j : Int) < m := by omega
    simp (disch := first | omega | (simp only [List.length_append, List.length_map, List.length_cons, List.length_nil, List.length_replicate, List.length_drop, List.length_take]; omega) | (simp only [hget_c, Nat.reduceEqDiff, ↓reduceIte]; done) | assumption | (simp (disch := omega) only [hg_ne, hg_eq, hgs_ne, *]; done) | (simp only [LAWS, pu5, pu6, pu7]; done) | with_unfolding_all rfl) only [unf b15_0.eq_1, unf k15_1.eq_1, unf k15_2.eq_1, c15, circV, this, hi0, LAWS, LAWS3, LAWS4, hm, tmod_nn, EV1, EV2, EV3, EV4, w_lp1, w_lp0, ca_0, ca_s, Nat.reduceAdd, Nat.reduceSub, Int.reduceToNat, Nat.reduceMul, Nat.reduceEqDiff, Nat.reduceLeDiff, Int.reduceEq, Int.reduceLT, Int.reduceLE, ↓reduceIte, List.length_cons, List.length_nil, List.getElem?_cons_zero, List.getElem?_cons_succ, if_true, if_false, Ck_pos, List.all_cons, List.all_nil, Bool.and_self, Bool.and_true, Bool.true_and, beq_self_eq_true, eq_self, Bool.not_true, Bool.not_false, decide_true, decide_false, and_self, true_and, and_true, List.drop_zero, List.drop_succ_cons, List.take_succ_cons, List.take_zero, List.take_nil, List.drop_nil, List.cons_append, List.nil_append, List.append_nil, Int.toNat_natCast, List.length_map, Nat.le_refl, Nat.zero_add, Nat.sub_zero, Nat.add_zero, take_full, List.replicate_succ, List.replicate_zero, List.set_cons_zero, List.set_cons_succ, Option.some.injEq, FV.bool.injEq, FV.int.injEq, most, deep, wrap64, wrapu64, wrapu8, wrapi8]
    rw [snocB, show decide (q.2.2 / 2 ^ j % 2 = 1) = bitS q.2.2 (ins.getD i ([], 0)).2 by unfold bitS; rw [hm, show ((m : Nat) : Int).toNat = j by omega]]
    exact Ok_inL (by decide) (by simp [lowTm, low, lows, LAWS, LAWS4]) (by simp [cutH, lowHeap, lowObj, lows, low, LAWS, LAWS3, circV, lows_app]) next
  | succ k ih =>
    intro j hj
    have hq0 : 0 ≤ q.2.2 / 2 ^ j := Int.ediv_nonneg hb0 (Int.pow_nonneg (by decide))
    have hq1 : q.2.2 / 2 ^ j ≤ 18446744073709551615 := Int.le_trans (Int.ediv_le_self _ hb0) hb1
    have this : (j : Int) < m := by omega
    have hd : q.2.2 / 2 ^ j / 2 = q.2.2 / 2 ^ (j + 1) := by rw [Int.ediv_ediv_of_nonneg (Int.pow_nonneg (by decide)), Int.pow_succ]
    have hw : IntKind.u64.wrap ((q.2.2 / 2 ^ j).tdiv 2) = q.2.2 / 2 ^ (j + 1) := by
      rw [tdiv_nn hq0, hd]
      exact wrapu64 (by omega) (by omega)
    simp (disch := first | omega | (simp only [List.length_append, List.length_map, List.length_cons, List.length_nil, List.length_replicate, List.length_drop, List.length_take]; omega) | (simp only [hget_c, Nat.reduceEqDiff, ↓reduceIte]; done) | assumption | (simp (disch := omega) only [hg_ne, hg_eq, hgs_ne, *]; done) | (simp only [LAWS, pu5, pu6, pu7]; done) | with_unfolding_all rfl) only [unf b15_0.eq_1, c15, circV, this, hi0, LAWS, LAWS3, LAWS4, hm, hw, EV1, EV2, EV3, EV4, w_lp1, w_lp0, ca_0, ca_s, Nat.reduceAdd, Nat.reduceSub, Int.reduceToNat, Nat.reduceMul, Nat.reduceEqDiff, Nat.reduceLeDiff, Int.reduceEq, Int.reduceLT, Int.reduceLE, ↓reduceIte, List.length_cons, List.length_nil, List.getElem?_cons_zero, List.getElem?_cons_succ, if_true, if_false, Ck_pos, List.all_cons, List.all_nil, Bool.and_self, Bool.and_true, Bool.true_and, beq_self_eq_true, eq_self, Bool.not_true, Bool.not_false, decide_true, decide_false, and_self, true_and, and_true, List.drop_zero, List.drop_succ_cons, List.take_succ_cons, List.take_zero, List.take_nil, List.drop_nil, List.cons_append, List.nil_append, List.append_nil, Int.toNat_natCast, List.length_map, Nat.le_refl, Nat.zero_add, Nat.sub_zero, Nat.add_zero, take_full, List.replicate_succ, List.replicate_zero, List.set_cons_zero, List.set_cons_succ, Option.some.injEq, FV.bool.injEq, FV.int.injEq, most, deep, wrap64, wrapu64, wrapu8, wrapi8]
    exact Ok_inL (by decide) (by simp [lowTm, low, lows, LAWS, LAWS4]) (by simp [cutH, lowHeap, lowObj, lows, low, LAWS, LAWS3, circV, lows_app]) (ih (j + 1) (by omega))
theorem c15_out {e1 e2 e3 e} (ins : In) (gs : Ga) (outs : List Int) (env : Env) (hs : Small ins gs outs) (hl : env.length ≤ 1100) (hx : ∀ i, 0 ≤ (env.getD i ([], 0, 0)).2.2 ∧ (env.getD i ([], 0, 0)).2.2 ≤ 18446744073709551615) (hk : chkS ins gs outs = 0) (hb : chkB env = 0) : ∀ (k i n : Nat) (os : List Bool), i + k = ins.length → n = os.length → os.length = i →
    @Ok Out (runs T [.code b15_3, .inL (some 11) b15_3, .inB 0, .code k15_4] [(1, .lst e (env.map bdV)), (2, .ptr 0 1 0 0), (6, .sref 1 9 n 0 n), (7, .int .i64 i)] [(9, .row 1 (os.map .bool)), (0, .row 3 [circV e1 e2 e3 ins gs outs])] 11) ⟨fun x => resV c15.res x = some (inS env (ins.drop i) os)⟩ := by
  obtain ⟨h1, h2, h3⟩ := id hs
  obtain ⟨hg, _⟩ := chk_good' hk
  intro k
  induction k with
  | zero =>
    intro i n os hi hn hol
    have : ¬ (i : Int) < ins.length := by omega
    simp (disch := first | omega | (simp only [List.length_append, List.length_map, List.length_cons, List.length_nil, List.length_replicate, List.length_drop, List.length_take]; omega) | (simp only [hget_c, Nat.reduceEqDiff, ↓reduceIte]; done) | assumption | (simp (disch := omega) only [hg_ne, hg_eq, hgs_ne, *]; done) | (simp only [LAWS, pu5, pu6, pu7]; done) | with_unfolding_all rfl) only [unf b15_3.eq_1, unf k15_4.eq_1, c15, circV, this, LAWS, LAWS3, LAWS4, EV1, EV2, EV3, EV4, w_lp1, w_lp0, ca_0, ca_s, Nat.reduceAdd, Nat.reduceSub, Int.reduceToNat, Nat.reduceMul, Nat.reduceEqDiff, Nat.reduceLeDiff, Int.reduceEq, Int.reduceLT, Int.reduceLE, ↓reduceIte, List.length_cons, List.length_nil, List.getElem?_cons_zero, List.getElem?_cons_succ, if_true, if_false, Ck_pos, List.all_cons, List.all_nil, Bool.and_self, Bool.and_true, Bool.true_and, beq_self_eq_true, eq_self, Bool.not_true, Bool.not_false, decide_true, decide_false, and_self, true_and, and_true, List.drop_zero, List.drop_succ_cons, List.take_succ_cons, List.take_zero, List.take_nil, List.drop_nil, List.cons_append, List.nil_append, List.append_nil, Int.toNat_natCast, List.length_map, Nat.le_refl, Nat.zero_add, Nat.sub_zero, Nat.add_zero, take_full, List.replicate_succ, List.replicate_zero, List.set_cons_zero, List.set_cons_succ, Option.some.injEq, FV.bool.injEq, FV.int.injEq, most, deep, wrap64, wrapu64, wrapu8, wrapi8]
    rw [List.drop_eq_nil_of_le (by omega)]
    rfl
  | succ k ih =>
    intro i n os hi hn hol
    have : (i : Int) < ins.length := by omega
    obtain ⟨_, g2, g3, _⟩ := hg i (by omega)
    have hr := bound_spec e env (ins.getD i ([], 0)).1 hl
    rw [drop_cons ins i ([], 0) (by omega), inS_cons]
    cases hbd : boundS env (ins.getD i ([], 0)).1 with
    | none =>
      rw [hbd] at hr
      have ho : oneS env (ins.getD i ([], 0)) = .inl 16 := by unfold oneS; rw [hbd]
      rw [ho]
      unfold boundV at hr
      simp (disch := first | omega | (simp only [List.length_append, List.length_map, List.length_cons, List.length_nil, List.length_replicate, List.length_drop, List.length_take]; omega) | (simp only [hget_c, Nat.reduceEqDiff, ↓reduceIte]; done) | assumption | (simp (disch := omega) only [hg_ne, hg_eq, hgs_ne, *]; done) | (simp only [LAWS, pu5, pu6, pu7]; done) | with_unfolding_all rfl) only [unf b15_3.eq_1, c15, circV, this, LAWS, LAWS3, LAWS4, hr, EV1, EV2, EV3, EV4, w_lp1, w_lp0, ca_0, ca_s, Nat.reduceAdd, Nat.reduceSub, Int.reduceToNat, Nat.reduceMul, Nat.reduceEqDiff, Nat.reduceLeDiff, Int.reduceEq, Int.reduceLT, Int.reduceLE, ↓reduceIte, List.length_cons, List.length_nil, List.getElem?_cons_zero, List.getElem?_cons_succ, if_true, if_false, Ck_pos, List.all_cons, List.all_nil, Bool.and_self, Bool.and_true, Bool.true_and, beq_self_eq_true, eq_self, Bool.not_true, Bool.not_false, decide_true, decide_false, and_self, true_and, and_true, List.drop_zero, List.drop_succ_cons, List.take_succ_cons, List.take_zero, List.take_nil, List.drop_nil, List.cons_append, List.nil_append, List.append_nil, Int.toNat_natCast, List.length_map, Nat.le_refl, Nat.zero_add, Nat.sub_zero, Nat.add_zero, take_full, List.replicate_succ, List.replicate_zero, List.set_cons_zero, List.set_cons_succ, Option.some.injEq, FV.bool.injEq, FV.int.injEq, most, deep, wrap64, wrapu64, wrapu8, wrapi8]
    | some q =>
      rw [hbd] at hr
      have hr : ∀ h nx, lim T 29 [.lst e (env.map bdV), .str (ins.getD i ([], 0)).1] h nx = some (.tup [.agg [.str q.1, .int .i64 q.2.1, .int .u64 q.2.2], .bool true], h, nx) := hr
      by_cases hw : q.2.1 ≤ (ins.getD i ([], 0)).2
      · have ho : oneS env (ins.getD i ([], 0)) = .inl 2 := by unfold oneS; rw [hbd]; exact if_pos hw
        rw [ho]
        simp (disch := first | omega | (simp only [List.length_append, List.length_map, List.length_cons, List.length_nil, List.length_replicate, List.length_drop, List.length_take]; omega) | (simp only [hget_c, Nat.reduceEqDiff, ↓reduceIte]; done) | assumption | (simp (disch := omega) only [hg_ne, hg_eq, hgs_ne, *]; done) | (simp only [LAWS, pu5, pu6, pu7]; done) | with_unfolding_all rfl) only [unf b15_3.eq_1, c15, circV, this, LAWS, LAWS3, LAWS4, hr, hw, EV1, EV2, EV3, EV4, w_lp1, w_lp0, ca_0, ca_s, Nat.reduceAdd, Nat.reduceSub, Int.reduceToNat, Nat.reduceMul, Nat.reduceEqDiff, Nat.reduceLeDiff, Int.reduceEq, Int.reduceLT, Int.reduceLE, ↓reduceIte, List.length_cons, List.length_nil, List.getElem?_cons_zero, List.getElem?_cons_succ, if_true, if_false, Ck_pos, List.all_cons, List.all_nil, Bool.and_self, Bool.and_true, Bool.true_and, beq_self_eq_true, eq_self, Bool.not_true, Bool.not_false, decide_true, decide_false, and_self, true_and, and_true, List.drop_zero, List.drop_succ_cons, List.take_succ_cons, List.take_zero, List.take_nil, List.drop_nil, List.cons_append, List.nil_append, List.append_nil, Int.toNat_natCast, List.length_map, Nat.le_refl, Nat.zero_add, Nat.sub_zero, Nat.add_zero, take_full, List.replicate_succ, List.replicate_zero, List.set_cons_zero, List.set_cons_succ, Option.some.injEq, FV.bool.injEq, FV.int.injEq, most, deep, wrap64, wrapu64, wrapu8, wrapi8]
      · have ho : oneS env (ins.getD i ([], 0)) = .inr (bitS q.2.2 (ins.getD i ([], 0)).2) := by unfold oneS; rw [hbd]; exact if_neg hw
        rw [ho]
        simp (disch := first | omega | (simp only [List.length_append, List.length_map, List.length_cons, List.length_nil, List.length_replicate, List.length_drop, List.length_take]; omega) | (simp only [hget_c, Nat.reduceEqDiff, ↓reduceIte]; done) | assumption | (simp (disch := omega) only [hg_ne, hg_eq, hgs_ne, *]; done) | (simp only [LAWS, pu5, pu6, pu7]; done) | with_unfolding_all rfl) only [unf b15_3.eq_1, c15, circV, this, LAWS, LAWS3, LAWS4, hr, hw, EV1, EV2, EV3, EV4, w_lp1, w_lp0, ca_0, ca_s, Nat.reduceAdd, Nat.reduceSub, Int.reduceToNat, Nat.reduceMul, Nat.reduceEqDiff, Nat.reduceLeDiff, Int.reduceEq, Int.reduceLT, Int.reduceLE, ↓reduceIte, List.length_cons, List.length_nil, List.getElem?_cons_zero, List.getElem?_cons_succ, if_true, if_false, Ck_pos, List.all_cons, List.all_nil, Bool.and_self, Bool.and_true, Bool.true_and, beq_self_eq_true, eq_self, Bool.not_true, Bool.not_false, decide_true, decide_false, and_self, true_and, and_true, List.drop_zero, List.drop_succ_cons, List.take_succ_cons, List.take_zero, List.take_nil, List.drop_nil, List.cons_append, List.nil_append, List.append_nil, Int.toNat_natCast, List.length_map, Nat.le_refl, Nat.zero_add, Nat.sub_zero, Nat.add_zero, take_full, List.replicate_succ, List.replicate_zero, List.set_cons_zero, List.set_cons_succ, Option.some.injEq, FV.bool.injEq, FV.int.injEq, most, deep, wrap64, wrapu64, wrapu8, wrapi8]
        have hq := List.mem_of_find?_eq_some hbd
        obtain ⟨a, ha⟩ := List.getElem?_of_mem hq
        have hxa := hx a
        have hqa : env.getD a ([], 0, 0) = q := by simp [List.getD, ha]
        rw [hqa] at hxa
        have hz := c15_in (e1 := e1) (e2 := e2) (e3 := e3) (e := e) ins gs outs env os n i (ins.getD i ([], 0)).2.toNat q hs (by omega) hn (by omega) hxa.1 hxa.2 (by omega) (by omega) _ (ih (i + 1) (n + 1) (os ++ [bitS q.2.2 (ins.getD i ([], 0)).2]) (by omega) (by simp; omega) (by simp; omega)) (ins.getD i ([], 0)).2.toNat 0 (by omega)
        rw [show q.2.2 / 2 ^ 0 = q.2.2 by rw [Int.pow_zero, Int.ediv_one]] at hz
        exact hz
theorem inputs2_spec {e1 e2 e3 e ins gs outs} (env : Env) (hs : Small ins gs outs) (hl : env.length ≤ 1100) (hx : ∀ i, 0 ≤ (env.getD i ([], 0, 0)).2.2 ∧ (env.getD i ([], 0, 0)).2.2 ≤ 18446744073709551615) : ∀ h nx, lim T 15 [circV e1 e2 e3 ins gs outs, .lst e (env.map bdV)] h nx = some (inputsS ins gs outs env, h, nx) := by
  have c1 := @check2_spec e1 e2 e3 ins gs outs hs
  have c2 := checkB2_spec e env hl (fun i => (hx i).2)
  unfold circV at c1
  obtain ⟨h1, h2, h3⟩ := id hs
  refine lim_iso tg15 rfl rfl (by simp [pures, pure_circ, pure_, pu7]) ?_
  unfold inputsS
  by_cases hk : chkS ins gs outs = 0
  · rw [if_pos hk]
    by_cases hb : chkB env = 0
    · rw [if_pos hb]
      simp (disch := first | omega | (simp only [List.length_append, List.length_map, List.length_cons, List.length_nil, List.length_replicate, List.length_drop, List.length_take]; omega) | (simp only [hget_c, Nat.reduceEqDiff, ↓reduceIte]; done) | assumption | (simp (disch := omega) only [hg_ne, hg_eq, hgs_ne, *]; done) | (simp only [LAWS, pu5, pu6, pu7]; done) | with_unfolding_all rfl) only [c15, circV, c1, c2, hk, hb, EV1, EV2, EV3, EV4, w_lp1, w_lp0, ca_0, ca_s, Nat.reduceAdd, Nat.reduceSub, Int.reduceToNat, Nat.reduceMul, Nat.reduceEqDiff, Nat.reduceLeDiff, Int.reduceEq, Int.reduceLT, Int.reduceLE, ↓reduceIte, List.length_cons, List.length_nil, List.getElem?_cons_zero, List.getElem?_cons_succ, if_true, if_false, Ck_pos, List.all_cons, List.all_nil, Bool.and_self, Bool.and_true, Bool.true_and, beq_self_eq_true, eq_self, Bool.not_true, Bool.not_false, decide_true, decide_false, and_self, true_and, and_true, List.drop_zero, List.drop_succ_cons, List.take_succ_cons, List.take_zero, List.take_nil, List.drop_nil, List.cons_append, List.nil_append, List.append_nil, Int.toNat_natCast, List.length_map, Nat.le_refl, Nat.zero_add, Nat.sub_zero, Nat.add_zero, take_full, List.replicate_succ, List.replicate_zero, List.set_cons_zero, List.set_cons_succ, Option.some.injEq, FV.bool.injEq, FV.int.injEq, most, deep, wrap64, wrapu64, wrapu8, wrapi8]
      exact c15_out ins gs outs env hs hl hx hk hb ins.length 0 0 [] (by omega) rfl rfl
    · rw [if_neg hb]
      have hb' := chkB_bad hb
      simp (disch := first | omega | (simp only [List.length_append, List.length_map, List.length_cons, List.length_nil, List.length_replicate, List.length_drop, List.length_take]; omega) | (simp only [hget_c, Nat.reduceEqDiff, ↓reduceIte]; done) | assumption | (simp (disch := omega) only [hg_ne, hg_eq, hgs_ne, *]; done) | (simp only [LAWS, pu5, pu6, pu7]; done) | with_unfolding_all rfl) only [c15, circV, c1, c2, hk, hb', EV1, EV2, EV3, EV4, w_lp1, w_lp0, ca_0, ca_s, Nat.reduceAdd, Nat.reduceSub, Int.reduceToNat, Nat.reduceMul, Nat.reduceEqDiff, Nat.reduceLeDiff, Int.reduceEq, Int.reduceLT, Int.reduceLE, ↓reduceIte, List.length_cons, List.length_nil, List.getElem?_cons_zero, List.getElem?_cons_succ, if_true, if_false, Ck_pos, List.all_cons, List.all_nil, Bool.and_self, Bool.and_true, Bool.true_and, beq_self_eq_true, eq_self, Bool.not_true, Bool.not_false, decide_true, decide_false, and_self, true_and, and_true, List.drop_zero, List.drop_succ_cons, List.take_succ_cons, List.take_zero, List.take_nil, List.drop_nil, List.cons_append, List.nil_append, List.append_nil, Int.toNat_natCast, List.length_map, Nat.le_refl, Nat.zero_add, Nat.sub_zero, Nat.add_zero, take_full, List.replicate_succ, List.replicate_zero, List.set_cons_zero, List.set_cons_succ, Option.some.injEq, FV.bool.injEq, FV.int.injEq, most, deep, wrap64, wrapu64, wrapu8, wrapi8]
  · rw [if_neg hk]
    simp (disch := first | omega | (simp only [List.length_append, List.length_map, List.length_cons, List.length_nil, List.length_replicate, List.length_drop, List.length_take]; omega) | (simp only [hget_c, Nat.reduceEqDiff, ↓reduceIte]; done) | assumption | (simp (disch := omega) only [hg_ne, hg_eq, hgs_ne, *]; done) | (simp only [LAWS, pu5, pu6, pu7]; done) | with_unfolding_all rfl) only [c15, circV, c1, hk, EV1, EV2, EV3, EV4, w_lp1, w_lp0, ca_0, ca_s, Nat.reduceAdd, Nat.reduceSub, Int.reduceToNat, Nat.reduceMul, Nat.reduceEqDiff, Nat.reduceLeDiff, Int.reduceEq, Int.reduceLT, Int.reduceLE, ↓reduceIte, List.length_cons, List.length_nil, List.getElem?_cons_zero, List.getElem?_cons_succ, if_true, if_false, Ck_pos, List.all_cons, List.all_nil, Bool.and_self, Bool.and_true, Bool.true_and, beq_self_eq_true, eq_self, Bool.not_true, Bool.not_false, decide_true, decide_false, and_self, true_and, and_true, List.drop_zero, List.drop_succ_cons, List.take_succ_cons, List.take_zero, List.take_nil, List.drop_nil, List.cons_append, List.nil_append, List.append_nil, Int.toNat_natCast, List.length_map, Nat.le_refl, Nat.zero_add, Nat.sub_zero, Nat.add_zero, take_full, List.replicate_succ, List.replicate_zero, List.set_cons_zero, List.set_cons_succ, Option.some.injEq, FV.bool.injEq, FV.int.injEq, most, deep, wrap64, wrapu64, wrapu8, wrapi8]
end Go.Proofs.Ythjgmhpgplhkgaa.Fi

