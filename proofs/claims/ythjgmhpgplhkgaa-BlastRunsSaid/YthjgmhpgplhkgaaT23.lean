/- A part of the proof: see the last text. -/
import Derived.Test.YthjgmhpgplhkgaaT22
set_option linter.unusedSimpArgs false
set_option linter.unusedVariables false
namespace Go.Proofs.Ythjgmhpgplhkgaa.Fi
open Go.FI
theorem tg25 : tget T 25 = some (.fn c25) := by rfl
theorem tg29 : tget T 29 = some (.fn c29) := by rfl
theorem cb_lt : ∀ a b : List UInt8, Lib.compareBytes a b < 0 ↔ Op.bytesLess a b = true := by
  intro a
  induction a with
  | nil => intro b; cases b <;> simp [Lib.compareBytes, Op.bytesLess]
  | cons x a ih =>
    intro b
    cases b with
    | nil => simp [Lib.compareBytes, Op.bytesLess]
    | cons y b =>
      simp only [Lib.compareBytes, Op.bytesLess]
      by_cases h1 : x < y
      · simp [h1]
      · by_cases h2 : y < x
        · simp [h1, h2]
          intro h; subst h; exact absurd h2 (UInt8.lt_irrefl _)
        · have h3 : y = x := UInt8.le_antisymm (UInt8.not_lt.1 h1) (UInt8.not_lt.1 h2)
          subst h3
          simp [ih b]
theorem cb_eq : ∀ a b : List UInt8, Lib.compareBytes a b = 0 ↔ a = b := by
  intro a
  induction a with
  | nil => intro b; cases b <;> simp [Lib.compareBytes]
  | cons x a ih =>
    intro b
    cases b with
    | nil => simp [Lib.compareBytes]
    | cons y b =>
      simp only [Lib.compareBytes]
      by_cases h1 : x < y
      · simp [h1]
        intro h; subst h; exact absurd h1 (UInt8.lt_irrefl _)
      · by_cases h2 : y < x
        · simp [h1, h2]
          intro h; subst h; exact absurd h2 (UInt8.lt_irrefl _)
        · have h3 : y = x := UInt8.le_antisymm (UInt8.not_lt.1 h1) (UInt8.not_lt.1 h2)
          subst h3
          simp [ih b]
theorem bl_trans {a b c : List UInt8} (h1 : Op.bytesLess a b = true) (h2 : Op.bytesLess b c = true) : Op.bytesLess a c = true := by
  induction a generalizing b c with
  | nil =>
    cases b with
    | nil => simp [Op.bytesLess] at h1
    | cons y b =>
      cases c with
      | nil => simp [Op.bytesLess] at h2
      | cons z c => simp [Op.bytesLess]
  | cons x a ih =>
    cases b with
    | nil => simp [Op.bytesLess] at h1
    | cons y b =>
      cases c with
      | nil => simp [Op.bytesLess] at h2
      | cons z c =>
        simp only [Op.bytesLess, Bool.or_eq_true, Bool.and_eq_true, decide_eq_true_eq, beq_iff_eq] at h1 h2 ⊢
        rcases h1 with h1 | ⟨rfl, h1⟩
        · rcases h2 with h2 | ⟨rfl, h2⟩
          · exact .inl (UInt8.lt_trans h1 h2)
          · exact .inl h1
        · rcases h2 with h2 | ⟨rfl, h2⟩
          · exact .inl h2
          · exact .inr ⟨rfl, ih h1 h2⟩
abbrev nm (env : Env) (k : Nat) : List UInt8 := (env.getD k ([], 0, 0)).1
abbrev PS (env : Env) (s : List UInt8) (r : FV) : Prop := ∃ i : Nat, i ≤ env.length ∧ (∀ k, k < i → Op.bytesLess (nm env k) s = true) ∧ (∀ k, i ≤ k → k < env.length → ¬ Op.bytesLess (nm env k) s = true) ∧ r = .tup [.int .i64 i, .bool (decide (i < env.length ∧ (env.getD i ([], 0, 0)).1 = s))]
theorem c25_loop (e : Bool) (env : Env) (s : List UInt8) (hl : env.length ≤ 1100)
    (mono : ∀ a b, a < b → b < env.length → Op.bytesLess (nm env a) (nm env b) = true) : ∀ (n i j : Nat), j - i ≤ n → i ≤ j → j ≤ env.length → (∀ k, k < i → Op.bytesLess (nm env k) s = true) → (∀ k, j ≤ k → k < env.length → ¬ Op.bytesLess (nm env k) s = true) →
    @Ok Out (runs T [.code b25_0, .inL (some 8) b25_0, .inB 0, .code k25_1] [(0, .lst e (env.map bdV)), (1, .str s), (2, .fn 26 []), (8, .int .i64 env.length), (9, .int .i64 i), (10, .int .i64 j)] [] 8) ⟨fun x => @Ok FV (resV c25.res x) ⟨PS env s⟩⟩ := by
  intro n
  induction n with
  | zero =>
    intro i j hn hij hj lo hi
    have : ¬ (i : Int) < j := by omega
    have e : j = i := by omega
    subst e
    simp (disch := first | omega | (simp only [List.length_append, List.length_map, List.length_cons, List.length_nil, List.length_replicate, List.length_drop, List.length_take]; omega) | (simp only [hget_c, Nat.reduceEqDiff, ↓reduceIte]; done) | assumption | (simp (disch := omega) only [hg_ne, hg_eq, hgs_ne, *]; done) | (simp only [LAWS, pu5, pu6, pu7]; done) | with_unfolding_all rfl) only [unf b25_0.eq_1, unf k25_1.eq_1, c25, this, LAWS4, EV1, EV2, EV3, EV4, w_lp1, w_lp0, ca_0, ca_s, Nat.reduceAdd, Nat.reduceSub, Int.reduceToNat, Nat.reduceMul, Nat.reduceEqDiff, Nat.reduceLeDiff, ↓reduceIte, List.length_cons, List.length_nil, List.getElem?_cons_zero, List.getElem?_cons_succ, if_true, if_false, Ck_pos, List.all_cons, List.all_nil, Bool.and_self, Bool.and_true, Bool.true_and, beq_self_eq_true, eq_self, Bool.not_true, Bool.not_false, decide_true, decide_false, and_self, true_and, and_true, List.drop_zero, List.drop_succ_cons, List.take_succ_cons, List.take_zero, List.take_nil, List.drop_nil, List.cons_append, List.nil_append, List.append_nil, Int.toNat_natCast, List.length_map, Nat.le_refl, Nat.zero_add, Nat.sub_zero, Nat.add_zero, take_full, List.replicate_succ, List.replicate_zero, List.set_cons_zero, List.set_cons_succ, Option.some.injEq, FV.bool.injEq, FV.int.injEq, most, deep, wrap64, wrapu64, wrapu8, wrapi8]
    repeat' (refine Ok_if (fun hb => ?_) (fun hb => ?_) <;> have h := hb <;> (try simp only [decide_eq_true_eq, decide_eq_false_iff_not, Int.not_lt, Int.not_le] at h) <;> (simp (disch := first | omega | (simp only [List.length_append, List.length_map, List.length_cons, List.length_nil, List.length_replicate, List.length_drop, List.length_take]; omega) | (simp only [hget_c, Nat.reduceEqDiff, ↓reduceIte]; done) | assumption | (simp (disch := omega) only [hg_ne, hg_eq, hgs_ne, *]; done) | (simp only [LAWS, pu5, pu6, pu7]; done) | with_unfolding_all rfl) only [hb, c25, LAWS4, gd7, cmp_spec, EV1, EV2, EV3, EV4, w_lp1, w_lp0, ca_0, ca_s, Nat.reduceAdd, Nat.reduceSub, Int.reduceToNat, Nat.reduceMul, Nat.reduceEqDiff, Nat.reduceLeDiff, ↓reduceIte, List.length_cons, List.length_nil, List.getElem?_cons_zero, List.getElem?_cons_succ, if_true, if_false, Ck_pos, List.all_cons, List.all_nil, Bool.and_self, Bool.and_true, Bool.true_and, beq_self_eq_true, eq_self, Bool.not_true, Bool.not_false, decide_true, decide_false, and_self, true_and, and_true, List.drop_zero, List.drop_succ_cons, List.take_succ_cons, List.take_zero, List.take_nil, List.drop_nil, List.cons_append, List.nil_append, List.append_nil, Int.toNat_natCast, List.length_map, Nat.le_refl, Nat.zero_add, Nat.sub_zero, Nat.add_zero, take_full, List.replicate_succ, List.replicate_zero, List.set_cons_zero, List.set_cons_succ, Option.some.injEq, FV.bool.injEq, FV.int.injEq, most, deep, wrap64, wrapu64, wrapu8, wrapi8]) <;> (try clear hb))
    · refine ⟨j, hj, lo, hi, ?_⟩
      rw [show decide (Lib.compareBytes (List.getD env j ([], 0, 0)).1 s = 0) = decide (j < env.length ∧ (env.getD j ([], 0, 0)).1 = s) from decide_eq_decide.2 ((cb_eq _ _).trans ⟨fun h' => ⟨by omega, h'⟩, fun h' => h'.2⟩)]
    · refine ⟨j, hj, lo, hi, ?_⟩
      rw [show decide (j < env.length ∧ (env.getD j ([], 0, 0)).1 = s) = false from decide_eq_false fun h' => by omega]
  | succ n ih =>
    intro i j hn hij hj lo hi
    by_cases hlt : i < j
    · have : (i : Int) < j := by omega
      have hx : ((i : Int) + j) / 2 = ((i + j) / 2 : Nat) := by omega
      have hx1 : (i + j) / 2 < env.length := by omega
      simp (disch := first | omega | (simp only [List.length_append, List.length_map, List.length_cons, List.length_nil, List.length_replicate, List.length_drop, List.length_take]; omega) | (simp only [hget_c, Nat.reduceEqDiff, ↓reduceIte]; done) | assumption | (simp (disch := omega) only [hg_ne, hg_eq, hgs_ne, *]; done) | (simp only [LAWS, pu5, pu6, pu7]; done) | with_unfolding_all rfl) only [unf b25_0.eq_1, c25, this, LAWS4, shr1, hx, cmp_spec, EV1, EV2, EV3, EV4, w_lp1, w_lp0, ca_0, ca_s, Nat.reduceAdd, Nat.reduceSub, Int.reduceToNat, Nat.reduceMul, Nat.reduceEqDiff, Nat.reduceLeDiff, ↓reduceIte, List.length_cons, List.length_nil, List.getElem?_cons_zero, List.getElem?_cons_succ, if_true, if_false, Ck_pos, List.all_cons, List.all_nil, Bool.and_self, Bool.and_true, Bool.true_and, beq_self_eq_true, eq_self, Bool.not_true, Bool.not_false, decide_true, decide_false, and_self, true_and, and_true, List.drop_zero, List.drop_succ_cons, List.take_succ_cons, List.take_zero, List.take_nil, List.drop_nil, List.cons_append, List.nil_append, List.append_nil, Int.toNat_natCast, List.length_map, Nat.le_refl, Nat.zero_add, Nat.sub_zero, Nat.add_zero, take_full, List.replicate_succ, List.replicate_zero, List.set_cons_zero, List.set_cons_succ, Option.some.injEq, FV.bool.injEq, FV.int.injEq, most, deep, wrap64, wrapu64, wrapu8, wrapi8]
      repeat' (refine Ok_if (fun hb => ?_) (fun hb => ?_) <;> have h := hb <;> (try simp only [decide_eq_true_eq, decide_eq_false_iff_not, Int.not_lt, Int.not_le] at h) <;> (simp (disch := first | omega | (simp only [List.length_append, List.length_map, List.length_cons, List.length_nil, List.length_replicate, List.length_drop, List.length_take]; omega) | (simp only [hget_c, Nat.reduceEqDiff, ↓reduceIte]; done) | assumption | (simp (disch := omega) only [hg_ne, hg_eq, hgs_ne, *]; done) | (simp only [LAWS, pu5, pu6, pu7]; done) | with_unfolding_all rfl) only [hb, c25, LAWS4, gd7, cmp_spec, EV1, EV2, EV3, EV4, w_lp1, w_lp0, ca_0, ca_s, Nat.reduceAdd, Nat.reduceSub, Int.reduceToNat, Nat.reduceMul, Nat.reduceEqDiff, Nat.reduceLeDiff, ↓reduceIte, List.length_cons, List.length_nil, List.getElem?_cons_zero, List.getElem?_cons_succ, if_true, if_false, Ck_pos, List.all_cons, List.all_nil, Bool.and_self, Bool.and_true, Bool.true_and, beq_self_eq_true, eq_self, Bool.not_true, Bool.not_false, decide_true, decide_false, and_self, true_and, and_true, List.drop_zero, List.drop_succ_cons, List.take_succ_cons, List.take_zero, List.take_nil, List.drop_nil, List.cons_append, List.nil_append, List.append_nil, Int.toNat_natCast, List.length_map, Nat.le_refl, Nat.zero_add, Nat.sub_zero, Nat.add_zero, take_full, List.replicate_succ, List.replicate_zero, List.set_cons_zero, List.set_cons_succ, Option.some.injEq, FV.bool.injEq, FV.int.injEq, most, deep, wrap64, wrapu64, wrapu8, wrapi8]) <;> (try clear hb))
      · rw [cb_lt] at h
        refine Ok_inL (by decide) (by simp [lowTm, low, lows, LAWS4]) (by simp [cutH, lowHeap]) (ih ((i + j) / 2 + 1) j (by omega) (by omega) hj (fun k hk => ?_) hi)
        by_cases e : k = (i + j) / 2
        · rw [e]; exact h
        · exact bl_trans (mono k ((i + j) / 2) (by omega) hx1) h
      · refine Ok_inL (by decide) (by simp [lowTm, low, lows, LAWS4]) (by simp [cutH, lowHeap]) (ih i ((i + j) / 2) (by omega) (by omega) (by omega) lo (fun k hk hk' hb => ?_))
        have h' : ¬ Op.bytesLess (nm env ((i + j) / 2)) s = true := fun hb => by have hb' : Lib.compareBytes (List.getD env ((i + j) / 2) ([], 0, 0)).1 s < 0 := (cb_lt _ _).2 hb; omega
        by_cases e : k = (i + j) / 2
        · rw [e] at hb; exact h' hb
        · exact h' (bl_trans (mono ((i + j) / 2) k (by omega) hk') hb)
    · exact ih i j (by omega) hij hj lo hi
theorem search_spec (e : Bool) (env : Env) (s : List UInt8) (hl : env.length ≤ 1100) (mono : ∀ a b, a < b → b < env.length → Op.bytesLess (nm env a) (nm env b) = true) :
    ∃ r, PS env s r ∧ ∀ h nx, lim T 25 [.lst e (env.map bdV), .str s, .fn 26 []] h nx = some (r, h, nx) := by
  refine lim_isoP tg25 rfl rfl (by simp [pures, pure_, pu7]) ?_
  simp (disch := first | omega | (simp only [List.length_append, List.length_map, List.length_cons, List.length_nil, List.length_replicate, List.length_drop, List.length_take]; omega) | (simp only [hget_c, Nat.reduceEqDiff, ↓reduceIte]; done) | assumption | (simp (disch := omega) only [hg_ne, hg_eq, hgs_ne, *]; done) | (simp only [LAWS, pu5, pu6, pu7]; done) | with_unfolding_all rfl) only [c25, LAWS4, EV1, EV2, EV3, EV4, w_lp1, w_lp0, ca_0, ca_s, Nat.reduceAdd, Nat.reduceSub, Int.reduceToNat, Nat.reduceMul, Nat.reduceEqDiff, Nat.reduceLeDiff, ↓reduceIte, List.length_cons, List.length_nil, List.getElem?_cons_zero, List.getElem?_cons_succ, if_true, if_false, Ck_pos, List.all_cons, List.all_nil, Bool.and_self, Bool.and_true, Bool.true_and, beq_self_eq_true, eq_self, Bool.not_true, Bool.not_false, decide_true, decide_false, and_self, true_and, and_true, List.drop_zero, List.drop_succ_cons, List.take_succ_cons, List.take_zero, List.take_nil, List.drop_nil, List.cons_append, List.nil_append, List.append_nil, Int.toNat_natCast, List.length_map, Nat.le_refl, Nat.zero_add, Nat.sub_zero, Nat.add_zero, take_full, List.replicate_succ, List.replicate_zero, List.set_cons_zero, List.set_cons_succ, Option.some.injEq, FV.bool.injEq, FV.int.injEq, most, deep, wrap64, wrapu64, wrapu8, wrapi8]
  exact c25_loop e env s hl mono env.length 0 env.length (by omega) (by omega) (by omega) (by omega) (by omega)
def boundS (env : Env) (s : List UInt8) : Option (List UInt8 × Int × Int) := env.find? fun p => p.1 == s
def boundV : Option (List UInt8 × Int × Int) → FV
  | some p => .tup [bdV p, .bool true]
  | none => .tup [.agg [.str [], .int .i64 0, .int .u64 0], .bool false]
theorem find_at (env : Env) (s : List UInt8) (i : Nat) (hi : i < env.length) (lo : ∀ k, k < i → ¬ nm env k = s) : nm env i = s → boundS env s = some (env.getD i ([], 0, 0)) := by
  induction env generalizing i with
  | nil => simp at hi
  | cons p env ih =>
    intro h
    unfold boundS
    cases i with
    | zero => simp [nm] at h; simp [h]
    | succ i =>
      have h0 : ¬ p.1 = s := by simpa [nm] using lo 0 (by omega)
      simp only [List.find?_cons]
      rw [show (p.1 == s) = false by simpa using h0]
      have := ih i (by simpa using hi) (fun k hk => by simpa [nm] using lo (k + 1) (by omega)) (by simpa [nm] using h)
      simpa [boundS] using this
theorem find_no (env : Env) (s : List UInt8) (h : ∀ k, k < env.length → ¬ nm env k = s) : boundS env s = none := by
  unfold boundS
  rw [List.find?_eq_none]
  intro p hp
  obtain ⟨k, hk⟩ := List.getElem?_of_mem hp
  have hk' : k < env.length := (List.getElem?_eq_some_iff.1 hk).1
  have := h k hk'
  simp [nm, List.getD, hk] at this
  simpa using this
theorem c29_loop (e : Bool) (env : Env) (s : List UInt8) (hl : env.length ≤ 1100) : ∀ (k i : Nat), i + k = env.length → (∀ j, j < i → ¬ nm env j = s) →
    @Ok Out (runs T [.code b29_0, .inL (some 3) b29_0, .inB 0, .code k29_1] [(0, .lst e (env.map bdV)), (1, .str s), (4, .ptr 0 1 0 0), (6, .int .i64 i)] [(0, .row 3 [.agg [.str [], .int .i64 0, .int .u64 0]])] 3) ⟨fun x => resV c29.res x = some (boundV (boundS env s))⟩ := by
  intro k
  induction k with
  | zero =>
    intro i hi hok
    have : ¬ (i : Int) < env.length := by omega
    simp (disch := first | omega | (simp only [List.length_append, List.length_map, List.length_cons, List.length_nil, List.length_replicate, List.length_drop, List.length_take]; omega) | (simp only [hget_c, Nat.reduceEqDiff, ↓reduceIte]; done) | assumption | (simp (disch := omega) only [hg_ne, hg_eq, hgs_ne, *]; done) | (simp only [LAWS, pu5, pu6, pu7]; done) | with_unfolding_all rfl) only [unf b29_0.eq_1, unf k29_1.eq_1, c29, this, LAWS4, EV1, EV2, EV3, EV4, w_lp1, w_lp0, ca_0, ca_s, Nat.reduceAdd, Nat.reduceSub, Int.reduceToNat, Nat.reduceMul, Nat.reduceEqDiff, Nat.reduceLeDiff, ↓reduceIte, List.length_cons, List.length_nil, List.getElem?_cons_zero, List.getElem?_cons_succ, if_true, if_false, Ck_pos, List.all_cons, List.all_nil, Bool.and_self, Bool.and_true, Bool.true_and, beq_self_eq_true, eq_self, Bool.not_true, Bool.not_false, decide_true, decide_false, and_self, true_and, and_true, List.drop_zero, List.drop_succ_cons, List.take_succ_cons, List.take_zero, List.take_nil, List.drop_nil, List.cons_append, List.nil_append, List.append_nil, Int.toNat_natCast, List.length_map, Nat.le_refl, Nat.zero_add, Nat.sub_zero, Nat.add_zero, take_full, List.replicate_succ, List.replicate_zero, List.set_cons_zero, List.set_cons_succ, Option.some.injEq, FV.bool.injEq, FV.int.injEq, most, deep, wrap64, wrapu64, wrapu8, wrapi8]
    rw [find_no env s fun j hj => hok j (by omega)]
    rfl
  | succ k ih =>
    intro i hi hok
    have : (i : Int) < env.length := by omega
    simp (disch := first | omega | (simp only [List.length_append, List.length_map, List.length_cons, List.length_nil, List.length_replicate, List.length_drop, List.length_take]; omega) | (simp only [hget_c, Nat.reduceEqDiff, ↓reduceIte]; done) | assumption | (simp (disch := omega) only [hg_ne, hg_eq, hgs_ne, *]; done) | (simp only [LAWS, pu5, pu6, pu7]; done) | with_unfolding_all rfl) only [unf b29_0.eq_1, c29, this, LAWS4, EV1, EV2, EV3, EV4, w_lp1, w_lp0, ca_0, ca_s, Nat.reduceAdd, Nat.reduceSub, Int.reduceToNat, Nat.reduceMul, Nat.reduceEqDiff, Nat.reduceLeDiff, ↓reduceIte, List.length_cons, List.length_nil, List.getElem?_cons_zero, List.getElem?_cons_succ, if_true, if_false, Ck_pos, List.all_cons, List.all_nil, Bool.and_self, Bool.and_true, Bool.true_and, beq_self_eq_true, eq_self, Bool.not_true, Bool.not_false, decide_true, decide_false, and_self, true_and, and_true, List.drop_zero, List.drop_succ_cons, List.take_succ_cons, List.take_zero, List.take_nil, List.drop_nil, List.cons_append, List.nil_append, List.append_nil, Int.toNat_natCast, List.length_map, Nat.le_refl, Nat.zero_add, Nat.sub_zero, Nat.add_zero, take_full, List.replicate_succ, List.replicate_zero, List.set_cons_zero, List.set_cons_succ, Option.some.injEq, FV.bool.injEq, FV.int.injEq, most, deep, wrap64, wrapu64, wrapu8, wrapi8]
    repeat' (refine Ok_if (fun hb => ?_) (fun hb => ?_) <;> have h := hb <;> (try simp only [decide_eq_true_eq, decide_eq_false_iff_not, Int.not_lt, Int.not_le] at h) <;> (simp (disch := first | omega | (simp only [List.length_append, List.length_map, List.length_cons, List.length_nil, List.length_replicate, List.length_drop, List.length_take]; omega) | (simp only [hget_c, Nat.reduceEqDiff, ↓reduceIte]; done) | assumption | (simp (disch := omega) only [hg_ne, hg_eq, hgs_ne, *]; done) | (simp only [LAWS, pu5, pu6, pu7]; done) | with_unfolding_all rfl) only [hb, c29, LAWS4, gd7, EV1, EV2, EV3, EV4, w_lp1, w_lp0, ca_0, ca_s, Nat.reduceAdd, Nat.reduceSub, Int.reduceToNat, Nat.reduceMul, Nat.reduceEqDiff, Nat.reduceLeDiff, ↓reduceIte, List.length_cons, List.length_nil, List.getElem?_cons_zero, List.getElem?_cons_succ, if_true, if_false, Ck_pos, List.all_cons, List.all_nil, Bool.and_self, Bool.and_true, Bool.true_and, beq_self_eq_true, eq_self, Bool.not_true, Bool.not_false, decide_true, decide_false, and_self, true_and, and_true, List.drop_zero, List.drop_succ_cons, List.take_succ_cons, List.take_zero, List.take_nil, List.drop_nil, List.cons_append, List.nil_append, List.append_nil, Int.toNat_natCast, List.length_map, Nat.le_refl, Nat.zero_add, Nat.sub_zero, Nat.add_zero, take_full, List.replicate_succ, List.replicate_zero, List.set_cons_zero, List.set_cons_succ, Option.some.injEq, FV.bool.injEq, FV.int.injEq, most, deep, wrap64, wrapu64, wrapu8, wrapi8]) <;> (try clear hb))
    · rw [find_at env s i (by omega) hok (by simpa [nm] using h)]
      rfl
    · refine Ok_inL (by decide) (by simp [lowTm, low, LAWS4]) (by simp [cutH, lowHeap, lowObj, lows, low]) (ih (i + 1) (by omega) (upTo hok ?_))
      simpa [nm] using h
theorem bound_spec (e : Bool) (env : Env) (s : List UInt8) (hl : env.length ≤ 1100) : ∀ h nx, lim T 29 [.lst e (env.map bdV), .str s] h nx = some (boundV (boundS env s), h, nx) := by
  refine lim_iso tg29 rfl rfl (by simp [pures, pure_, pu7]) ?_
  simp (disch := first | omega | (simp only [List.length_append, List.length_map, List.length_cons, List.length_nil, List.length_replicate, List.length_drop, List.length_take]; omega) | (simp only [hget_c, Nat.reduceEqDiff, ↓reduceIte]; done) | assumption | (simp (disch := omega) only [hg_ne, hg_eq, hgs_ne, *]; done) | (simp only [LAWS, pu5, pu6, pu7]; done) | with_unfolding_all rfl) only [c29, LAWS4, EV1, EV2, EV3, EV4, w_lp1, w_lp0, ca_0, ca_s, Nat.reduceAdd, Nat.reduceSub, Int.reduceToNat, Nat.reduceMul, Nat.reduceEqDiff, Nat.reduceLeDiff, ↓reduceIte, List.length_cons, List.length_nil, List.getElem?_cons_zero, List.getElem?_cons_succ, if_true, if_false, Ck_pos, List.all_cons, List.all_nil, Bool.and_self, Bool.and_true, Bool.true_and, beq_self_eq_true, eq_self, Bool.not_true, Bool.not_false, decide_true, decide_false, and_self, true_and, and_true, List.drop_zero, List.drop_succ_cons, List.take_succ_cons, List.take_zero, List.take_nil, List.drop_nil, List.cons_append, List.nil_append, List.append_nil, Int.toNat_natCast, List.length_map, Nat.le_refl, Nat.zero_add, Nat.sub_zero, Nat.add_zero, take_full, List.replicate_succ, List.replicate_zero, List.set_cons_zero, List.set_cons_succ, Option.some.injEq, FV.bool.injEq, FV.int.injEq, most, deep, wrap64, wrapu64, wrapu8, wrapi8]
  exact c29_loop e env s hl env.length 0 (by omega) (by omega)
end Go.Proofs.Ythjgmhpgplhkgaa.Fi

