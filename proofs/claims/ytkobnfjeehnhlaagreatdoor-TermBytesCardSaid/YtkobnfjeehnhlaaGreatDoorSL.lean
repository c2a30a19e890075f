/- Memory. -/
import Derived.Test.YtkobnfjeehnhlaaGreatDoorSB
set_option linter.all false
set_option linter.unusedSimpArgs false
set_option linter.unusedVariables false
set_option linter.unusedSectionVars false
namespace Go.Proofs.YtkobnfjeehnhlaaGreatDoor.Fi
open Go.FI
abbrev Mem := List (Int × Int)
def ceV (p : Int × Int) : FV := .agg [.int .u64 p.1, .int .u8 p.2]
theorem pu_m (l : Mem) : pures (l.map ceV) = true := pures_map (fun _ => rfl) _
theorem lo_m (b : Nat) (l : Mem) : lows b (l.map ceV) = true := lows_map (fun _ => rfl) _
theorem gd_m {l : Mem} {i : Nat} {d : FV} (h : i < l.length) : (l.map ceV).getD i d = .agg [.int .u64 (l.getD i (0, 0)).1, .int .u8 (l.getD i (0, 0)).2] := getD_map _ h
theorem LAWSm : type_of% (And.intro pu_m <| And.intro lo_m <| @gd_m) := And.intro pu_m <| And.intro lo_m <| @gd_m
theorem toNat_sub1 (i : Nat) : ((i : Int) - 1).toNat = i - 1 := by omega
theorem upTo {p : Nat → Prop} {i : Nat} (h : ∀ j, j < i → p j) (hi : p i) : ∀ j, j < i + 1 → p j := fun j hj => by
  by_cases e : j = i
  · subst e; exact hi
  · exact h j (by omega)
def goodM (m : Mem) (i : Nat) : Prop := (m.getD i (0, 0)).2 ≠ 0 ∧ (i ≠ 0 → (m.getD (i - 1) (0, 0)).1 < (m.getD i (0, 0)).1)
def memS (m : Mem) : Prop := m.length ≤ 4096 ∧ ∀ i, i < m.length → goodM m i
open Classical in
noncomputable def chkM (m : Mem) : Int := if memS m then 0 else 8
theorem chkM_ok {m : Mem} (h1 : m.length ≤ 4096) (h2 : ∀ i, i < m.length → goodM m i) : 0 = chkM m := (if_pos ⟨h1, h2⟩).symm
theorem chkM_no {m : Mem} (h : ¬ memS m) : 8 = chkM m := (if_neg h).symm
theorem checkCells_loop (e : Bool) (m : Mem) (hl : m.length ≤ 4096) : ∀ (k i : Nat), i + k = m.length → (∀ j, j < i → goodM m j) →
    @Ok Out (runs T [.code b15_0, .inL (some 7) b15_0, .inB 0, .code k15_1] [(0, .lst e (m.map ceV)), (8, .lst e (m.map ceV)), (9, .int .i64 m.length), (10, .int .i64 i)] [] 7) ⟨fun x => resV c15.res x = some (.int .i64 (chkM m))⟩ := by
  intro k
  induction k with
  | zero =>
    intro i hi hok
    have : ¬ (i : Int) < m.length := by omega
    simp (disch := first | omega | (simp only [List.length_append, List.length_map, List.length_cons, List.length_nil, List.length_replicate, List.length_drop, List.length_take]; omega) | (simp only [hget_c, Nat.reduceEqDiff, ↓reduceIte]; done) | assumption | (simp (disch := omega) only [hg_ne, hg_eq, hgs_ne, *]; done) | (simp only [LAWSm]; done) | with_unfolding_all rfl) only [unf b15_0.eq_1, unf k15_1.eq_1, c15, this, EV1, EV2, EV3, EV4, EV5, w_lp1, w_lp0, ca_0, ca_s, Nat.reduceAdd, Nat.reduceSub, Int.reduceToNat, Nat.reduceMul, Nat.reduceEqDiff, Nat.reduceLeDiff, Int.reduceEq, Int.reduceLT, Int.reduceLE, ↓reduceIte, List.length_cons, List.length_nil, List.getElem?_cons_zero, List.getElem?_cons_succ, if_true, if_false, Ck_pos, List.all_cons, List.all_nil, Bool.and_self, Bool.and_true, Bool.true_and, beq_self_eq_true, eq_self, Bool.not_true, Bool.not_false, decide_true, decide_false, and_self, true_and, and_true, List.drop_zero, List.drop_succ_cons, List.take_succ_cons, List.take_zero, List.take_nil, List.drop_nil, List.cons_append, List.nil_append, List.append_nil, Int.toNat_natCast, List.length_map, Nat.le_refl, Nat.zero_add, Nat.sub_zero, Nat.add_zero, take_full, List.replicate_succ, List.replicate_zero, List.set_cons_zero, List.set_cons_succ, Option.some.injEq, FV.bool.injEq, FV.int.injEq, most, deep, wrap64, wrapu64, wrapu8, wrapi8]
    exact chkM_ok hl fun j hj => hok j (by omega)
  | succ k ih =>
    intro i hi hok
    have : (i : Int) < m.length := by omega
    simp (disch := first | omega | (simp only [List.length_append, List.length_map, List.length_cons, List.length_nil, List.length_replicate, List.length_drop, List.length_take]; omega) | (simp only [hget_c, Nat.reduceEqDiff, ↓reduceIte]; done) | assumption | (simp (disch := omega) only [hg_ne, hg_eq, hgs_ne, *]; done) | (simp only [LAWSm]; done) | with_unfolding_all rfl) only [unf b15_0.eq_1, c15, this, LAWSm, EV1, EV2, EV3, EV4, EV5, w_lp1, w_lp0, ca_0, ca_s, Nat.reduceAdd, Nat.reduceSub, Int.reduceToNat, Nat.reduceMul, Nat.reduceEqDiff, Nat.reduceLeDiff, Int.reduceEq, Int.reduceLT, Int.reduceLE, ↓reduceIte, List.length_cons, List.length_nil, List.getElem?_cons_zero, List.getElem?_cons_succ, if_true, if_false, Ck_pos, List.all_cons, List.all_nil, Bool.and_self, Bool.and_true, Bool.true_and, beq_self_eq_true, eq_self, Bool.not_true, Bool.not_false, decide_true, decide_false, and_self, true_and, and_true, List.drop_zero, List.drop_succ_cons, List.take_succ_cons, List.take_zero, List.take_nil, List.drop_nil, List.cons_append, List.nil_append, List.append_nil, Int.toNat_natCast, List.length_map, Nat.le_refl, Nat.zero_add, Nat.sub_zero, Nat.add_zero, take_full, List.replicate_succ, List.replicate_zero, List.set_cons_zero, List.set_cons_succ, Option.some.injEq, FV.bool.injEq, FV.int.injEq, most, deep, wrap64, wrapu64, wrapu8, wrapi8]
    repeat' (refine Ok_if (fun hb => ?_) (fun hb => ?_) <;> have h := hb <;> (try simp only [decide_eq_true_eq, decide_eq_false_iff_not, Int.not_lt, Int.not_le] at h) <;> (simp (disch := first | omega | (simp only [List.length_append, List.length_map, List.length_cons, List.length_nil, List.length_replicate, List.length_drop, List.length_take]; omega) | (simp only [hget_c, Nat.reduceEqDiff, ↓reduceIte]; done) | assumption | (simp (disch := omega) only [hg_ne, hg_eq, hgs_ne, *]; done) | (simp only [LAWSm]; done) | with_unfolding_all rfl) only [hb, c15, LAWSm, gd_m, toNat_sub1, EV1, EV2, EV3, EV4, EV5, w_lp1, w_lp0, ca_0, ca_s, Nat.reduceAdd, Nat.reduceSub, Int.reduceToNat, Nat.reduceMul, Nat.reduceEqDiff, Nat.reduceLeDiff, Int.reduceEq, Int.reduceLT, Int.reduceLE, ↓reduceIte, List.length_cons, List.length_nil, List.getElem?_cons_zero, List.getElem?_cons_succ, if_true, if_false, Ck_pos, List.all_cons, List.all_nil, Bool.and_self, Bool.and_true, Bool.true_and, beq_self_eq_true, eq_self, Bool.not_true, Bool.not_false, decide_true, decide_false, and_self, true_and, and_true, List.drop_zero, List.drop_succ_cons, List.take_succ_cons, List.take_zero, List.take_nil, List.drop_nil, List.cons_append, List.nil_append, List.append_nil, Int.toNat_natCast, List.length_map, Nat.le_refl, Nat.zero_add, Nat.sub_zero, Nat.add_zero, take_full, List.replicate_succ, List.replicate_zero, List.set_cons_zero, List.set_cons_succ, Option.some.injEq, FV.bool.injEq, FV.int.injEq, most, deep, wrap64, wrapu64, wrapu8, wrapi8]) <;> (try clear hb))
    all_goals first
      | exact Ok_inL (by decide) (by simp [lowTm, low, lows, LAWSm]) (by simp [cutH, lowHeap, lowObj, lows, low, LAWSm]) (ih (i + 1) (by omega) (upTo hok ⟨by omega, fun _ => by omega⟩))
      | exact chkM_no fun hg => by
          have := hg.2 i (by omega); unfold goodM at this; omega
theorem checkCells_spec (e : Bool) (m : Mem) (h0 : m.length ≤ 9223372036854775807) : ∀ h nx, lim T 15 [.lst e (m.map ceV)] h nx = some (.int .i64 (chkM m), h, nx) := by
  refine lim_iso tg15 rfl rfl (by simp [pures, pure_, pu_m]) ?_
  simp (disch := first | omega | (simp only [List.length_append, List.length_map, List.length_cons, List.length_nil, List.length_replicate, List.length_drop, List.length_take]; omega) | (simp only [hget_c, Nat.reduceEqDiff, ↓reduceIte]; done) | assumption | (simp (disch := omega) only [hg_ne, hg_eq, hgs_ne, *]; done) | (simp only [LAWSm]; done) | with_unfolding_all rfl) only [c15, LAWSm, EV1, EV2, EV3, EV4, EV5, w_lp1, w_lp0, ca_0, ca_s, Nat.reduceAdd, Nat.reduceSub, Int.reduceToNat, Nat.reduceMul, Nat.reduceEqDiff, Nat.reduceLeDiff, Int.reduceEq, Int.reduceLT, Int.reduceLE, ↓reduceIte, List.length_cons, List.length_nil, List.getElem?_cons_zero, List.getElem?_cons_succ, if_true, if_false, Ck_pos, List.all_cons, List.all_nil, Bool.and_self, Bool.and_true, Bool.true_and, beq_self_eq_true, eq_self, Bool.not_true, Bool.not_false, decide_true, decide_false, and_self, true_and, and_true, List.drop_zero, List.drop_succ_cons, List.take_succ_cons, List.take_zero, List.take_nil, List.drop_nil, List.cons_append, List.nil_append, List.append_nil, Int.toNat_natCast, List.length_map, Nat.le_refl, Nat.zero_add, Nat.sub_zero, Nat.add_zero, take_full, List.replicate_succ, List.replicate_zero, List.set_cons_zero, List.set_cons_succ, Option.some.injEq, FV.bool.injEq, FV.int.injEq, most, deep, wrap64, wrapu64, wrapu8, wrapi8]
  repeat' (refine Ok_if (fun hb => ?_) (fun hb => ?_) <;> have h := hb <;> (try simp only [decide_eq_true_eq, decide_eq_false_iff_not, Int.not_lt, Int.not_le] at h) <;> (simp (disch := first | omega | (simp only [List.length_append, List.length_map, List.length_cons, List.length_nil, List.length_replicate, List.length_drop, List.length_take]; omega) | (simp only [hget_c, Nat.reduceEqDiff, ↓reduceIte]; done) | assumption | (simp (disch := omega) only [hg_ne, hg_eq, hgs_ne, *]; done) | (simp only [LAWSm]; done) | with_unfolding_all rfl) only [hb, c15, LAWSm, EV1, EV2, EV3, EV4, EV5, w_lp1, w_lp0, ca_0, ca_s, Nat.reduceAdd, Nat.reduceSub, Int.reduceToNat, Nat.reduceMul, Nat.reduceEqDiff, Nat.reduceLeDiff, Int.reduceEq, Int.reduceLT, Int.reduceLE, ↓reduceIte, List.length_cons, List.length_nil, List.getElem?_cons_zero, List.getElem?_cons_succ, if_true, if_false, Ck_pos, List.all_cons, List.all_nil, Bool.and_self, Bool.and_true, Bool.true_and, beq_self_eq_true, eq_self, Bool.not_true, Bool.not_false, decide_true, decide_false, and_self, true_and, and_true, List.drop_zero, List.drop_succ_cons, List.take_succ_cons, List.take_zero, List.take_nil, List.drop_nil, List.cons_append, List.nil_append, List.append_nil, Int.toNat_natCast, List.length_map, Nat.le_refl, Nat.zero_add, Nat.sub_zero, Nat.add_zero, take_full, List.replicate_succ, List.replicate_zero, List.set_cons_zero, List.set_cons_succ, Option.some.injEq, FV.bool.injEq, FV.int.injEq, most, deep, wrap64, wrapu64, wrapu8, wrapi8]) <;> (try clear hb))
  · exact chkM_no fun hg => by have := hg.1; omega
  · exact checkCells_loop e m (by omega) m.length 0 (by omega) (by omega)
theorem cmpC_spec (a b c : Int) : ∀ h nx, lim T 82 [.agg [.int .u64 a, .int .u8 b], .int .u64 c] h nx = some (.int .i64 (if a < c then -1 else if c < a then 1 else 0), h, nx) := by
  refine lim_iso tg82 rfl rfl rfl ?_
  simp (disch := first | omega | (simp only [List.length_append, List.length_map, List.length_cons, List.length_nil, List.length_replicate, List.length_drop, List.length_take]; omega) | (simp only [hget_c, Nat.reduceEqDiff, ↓reduceIte]; done) | assumption | (simp (disch := omega) only [hg_ne, hg_eq, hgs_ne, *]; done) | (simp only [LAWSm]; done) | with_unfolding_all rfl) only [c82, EV1, EV2, EV3, EV4, EV5, w_lp1, w_lp0, ca_0, ca_s, Nat.reduceAdd, Nat.reduceSub, Int.reduceToNat, Nat.reduceMul, Nat.reduceEqDiff, Nat.reduceLeDiff, Int.reduceEq, Int.reduceLT, Int.reduceLE, ↓reduceIte, List.length_cons, List.length_nil, List.getElem?_cons_zero, List.getElem?_cons_succ, if_true, if_false, Ck_pos, List.all_cons, List.all_nil, Bool.and_self, Bool.and_true, Bool.true_and, beq_self_eq_true, eq_self, Bool.not_true, Bool.not_false, decide_true, decide_false, and_self, true_and, and_true, List.drop_zero, List.drop_succ_cons, List.take_succ_cons, List.take_zero, List.take_nil, List.drop_nil, List.cons_append, List.nil_append, List.append_nil, Int.toNat_natCast, List.length_map, Nat.le_refl, Nat.zero_add, Nat.sub_zero, Nat.add_zero, take_full, List.replicate_succ, List.replicate_zero, List.set_cons_zero, List.set_cons_succ, Option.some.injEq, FV.bool.injEq, FV.int.injEq, most, deep, wrap64, wrapu64, wrapu8, wrapi8]
  repeat' (refine Ok_if (fun hb => ?_) (fun hb => ?_) <;> have h := hb <;> (try simp only [decide_eq_true_eq, decide_eq_false_iff_not, Int.not_lt, Int.not_le] at h) <;> (simp (disch := first | omega | (simp only [List.length_append, List.length_map, List.length_cons, List.length_nil, List.length_replicate, List.length_drop, List.length_take]; omega) | (simp only [hget_c, Nat.reduceEqDiff, ↓reduceIte]; done) | assumption | (simp (disch := omega) only [hg_ne, hg_eq, hgs_ne, *]; done) | (simp only [LAWSm]; done) | with_unfolding_all rfl) only [hb, c82, EV1, EV2, EV3, EV4, EV5, w_lp1, w_lp0, ca_0, ca_s, Nat.reduceAdd, Nat.reduceSub, Int.reduceToNat, Nat.reduceMul, Nat.reduceEqDiff, Nat.reduceLeDiff, Int.reduceEq, Int.reduceLT, Int.reduceLE, ↓reduceIte, List.length_cons, List.length_nil, List.getElem?_cons_zero, List.getElem?_cons_succ, if_true, if_false, Ck_pos, List.all_cons, List.all_nil, Bool.and_self, Bool.and_true, Bool.true_and, beq_self_eq_true, eq_self, Bool.not_true, Bool.not_false, decide_true, decide_false, and_self, true_and, and_true, List.drop_zero, List.drop_succ_cons, List.take_succ_cons, List.take_zero, List.take_nil, List.drop_nil, List.cons_append, List.nil_append, List.append_nil, Int.toNat_natCast, List.length_map, Nat.le_refl, Nat.zero_add, Nat.sub_zero, Nat.add_zero, take_full, List.replicate_succ, List.replicate_zero, List.set_cons_zero, List.set_cons_succ, Option.some.injEq, FV.bool.injEq, FV.int.injEq, most, deep, wrap64, wrapu64, wrapu8, wrapi8]) <;> (try clear hb))
  all_goals ((repeat' split) <;> first | rfl | omega)
/-- How many cells lie before an address. -/
def lbM (m : Mem) (a : Int) : Nat := (m.takeWhile fun p => decide (p.1 < a)).length
theorem lbM_le (m : Mem) (a : Int) : lbM m a ≤ m.length := (List.takeWhile_prefix _).length_le
theorem sorted_lt {m : Mem} (h : ∀ i, i < m.length → goodM m i) : ∀ (k i : Nat), i + k + 1 < m.length → (m.getD i (0, 0)).1 < (m.getD (i + k + 1) (0, 0)).1 := by
  intro k
  induction k with
  | zero => intro i hi; have := (h (i + 1) (by omega)).2 (by omega); simpa using this
  | succ k ih =>
    intro i hi
    have h1 := ih i (by omega)
    have h2 := (h (i + (k + 1) + 1) (by omega)).2 (by omega)
    have e : i + (k + 1) + 1 - 1 = i + k + 1 := by omega
    rw [e] at h2
    omega
theorem lb_below : ∀ (m : Mem) (a : Int) (i : Nat), i < lbM m a → (m.getD i (0, 0)).1 < a := by
  intro m
  induction m with
  | nil => intro a i h; simp [lbM] at h
  | cons p m ih =>
    intro a i h
    by_cases hp : p.1 < a
    · cases i with
      | zero => simpa using hp
      | succ i =>
        have : i < lbM m a := by simp [lbM, List.takeWhile_cons, hp] at h; simpa [lbM] using h
        simpa using ih a i this
    · simp [lbM, List.takeWhile_cons, hp] at h
theorem lb_at : ∀ (m : Mem) (a : Int), lbM m a < m.length → a ≤ (m.getD (lbM m a) (0, 0)).1 := by
  intro m
  induction m with
  | nil => intro a h; simp at h
  | cons p m ih =>
    intro a h
    by_cases hp : p.1 < a
    · have e : lbM (p :: m) a = lbM m a + 1 := by simp [lbM, List.takeWhile_cons, hp]
      rw [e] at h ⊢
      simpa using ih a (by simpa using h)
    · have e : lbM (p :: m) a = 0 := by simp [lbM, List.takeWhile_cons, hp]
      rw [e]; simp; omega
theorem lb_lt_iff {m : Mem} (hs : ∀ i, i < m.length → goodM m i) (a : Int) (i : Nat) (hi : i < m.length) : (m.getD i (0, 0)).1 < a ↔ i < lbM m a := by
  constructor
  · intro h
    rcases Nat.lt_or_ge i (lbM m a) with h1 | h1
    · exact h1
    · exfalso
      have h2 := lb_at m a (by omega)
      rcases Nat.eq_or_lt_of_le h1 with h3 | h3
      · rw [h3] at h2; omega
      · have := sorted_lt hs (i - lbM m a - 1) (lbM m a) (by omega)
        rw [show lbM m a + (i - lbM m a - 1) + 1 = i by omega] at this
        omega
  · exact lb_below m a i
def foundM (m : Mem) (a : Int) : Bool := decide (lbM m a < m.length ∧ (m.getD (lbM m a) (0, 0)).1 = a)
theorem half_nat (i j : Nat) (h : i + j ≤ 1000000) : shr .u64 ((i : Int) + (j : Int)) 1 = (((i + j) / 2 : Nat) : Int) := by
  rw [show (1 : Int) = ((1 : Nat) : Int) from rfl, shr_nat (by omega) (by omega), Nat.shiftRight_eq_div_pow]
  omega
theorem bsC_loop (e : Bool) (m : Mem) (a : Int) (hs : memS m) : ∀ (k i j : Nat), j - i ≤ k → i ≤ lbM m a → lbM m a ≤ j → j ≤ m.length →
    @Ok Out (runs T [.code b81_0, .inL (some 8) b81_0, .inB 0, .code k81_1] [(0, .lst e (m.map ceV)), (1, .int .u64 a), (2, .fn 82 []), (8, .int .i64 m.length), (9, .int .i64 i), (10, .int .i64 j)] [] 8) ⟨fun x => resV c81.res x = some (.tup [.int .i64 (lbM m a), .bool (foundM m a)])⟩ := by
  obtain ⟨h1, h2⟩ := hs
  intro k
  induction k with
  | zero =>
    intro i j hk hi hj hm
    have e : i = lbM m a := by omega
    have : ¬ (i : Int) < j := by omega
    simp (disch := first | omega | (simp only [List.length_append, List.length_map, List.length_cons, List.length_nil, List.length_replicate, List.length_drop, List.length_take]; omega) | (simp only [hget_c, Nat.reduceEqDiff, ↓reduceIte]; done) | assumption | (simp (disch := omega) only [hg_ne, hg_eq, hgs_ne, *]; done) | (simp only [LAWSm]; done) | with_unfolding_all rfl) only [unf b81_0.eq_1, unf k81_1.eq_1, c81, this, LAWSm, EV1, EV2, EV3, EV4, EV5, w_lp1, w_lp0, ca_0, ca_s, Nat.reduceAdd, Nat.reduceSub, Int.reduceToNat, Nat.reduceMul, Nat.reduceEqDiff, Nat.reduceLeDiff, Int.reduceEq, Int.reduceLT, Int.reduceLE, ↓reduceIte, List.length_cons, List.length_nil, List.getElem?_cons_zero, List.getElem?_cons_succ, if_true, if_false, Ck_pos, List.all_cons, List.all_nil, Bool.and_self, Bool.and_true, Bool.true_and, beq_self_eq_true, eq_self, Bool.not_true, Bool.not_false, decide_true, decide_false, and_self, true_and, and_true, List.drop_zero, List.drop_succ_cons, List.take_succ_cons, List.take_zero, List.take_nil, List.drop_nil, List.cons_append, List.nil_append, List.append_nil, Int.toNat_natCast, List.length_map, Nat.le_refl, Nat.zero_add, Nat.sub_zero, Nat.add_zero, take_full, List.replicate_succ, List.replicate_zero, List.set_cons_zero, List.set_cons_succ, Option.some.injEq, FV.bool.injEq, FV.int.injEq, most, deep, wrap64, wrapu64, wrapu8, wrapi8]
    repeat' (refine Ok_if (fun hb => ?_) (fun hb => ?_) <;> have h := hb <;> (try simp only [decide_eq_true_eq, decide_eq_false_iff_not, Int.not_lt, Int.not_le] at h) <;> (simp (disch := first | omega | (simp only [List.length_append, List.length_map, List.length_cons, List.length_nil, List.length_replicate, List.length_drop, List.length_take]; omega) | (simp only [hget_c, Nat.reduceEqDiff, ↓reduceIte]; done) | assumption | (simp (disch := omega) only [hg_ne, hg_eq, hgs_ne, *]; done) | (simp only [LAWSm]; done) | with_unfolding_all rfl) only [hb, c81, LAWSm, gd_m, cmpC_spec, EV1, EV2, EV3, EV4, EV5, w_lp1, w_lp0, ca_0, ca_s, Nat.reduceAdd, Nat.reduceSub, Int.reduceToNat, Nat.reduceMul, Nat.reduceEqDiff, Nat.reduceLeDiff, Int.reduceEq, Int.reduceLT, Int.reduceLE, ↓reduceIte, List.length_cons, List.length_nil, List.getElem?_cons_zero, List.getElem?_cons_succ, if_true, if_false, Ck_pos, List.all_cons, List.all_nil, Bool.and_self, Bool.and_true, Bool.true_and, beq_self_eq_true, eq_self, Bool.not_true, Bool.not_false, decide_true, decide_false, and_self, true_and, and_true, List.drop_zero, List.drop_succ_cons, List.take_succ_cons, List.take_zero, List.take_nil, List.drop_nil, List.cons_append, List.nil_append, List.append_nil, Int.toNat_natCast, List.length_map, Nat.le_refl, Nat.zero_add, Nat.sub_zero, Nat.add_zero, take_full, List.replicate_succ, List.replicate_zero, List.set_cons_zero, List.set_cons_succ, Option.some.injEq, FV.bool.injEq, FV.int.injEq, most, deep, wrap64, wrapu64, wrapu8, wrapi8]) <;> (try clear hb))
    · rw [← e]
      congr 2; simp only [List.cons.injEq, FV.bool.injEq, and_true, true_and]
      unfold foundM
      refine decide_eq_decide.2 ?_
      rw [← e]
      constructor
      · intro hx
        refine ⟨by omega, ?_⟩
        split at hx
        · omega
        · split at hx <;> omega
      · rintro ⟨_, hx⟩; rw [if_neg (by omega), if_neg (by omega)]
    · rw [e]
      congr 2; simp only [List.cons.injEq, FV.bool.injEq, and_true, true_and]
      exact (decide_eq_false fun hx => by have := hx.1; omega).symm
  | succ k ih =>
    intro i j hk hi hj hm
    by_cases hij : i < j
    · have : (i : Int) < j := by omega
      have hh := half_nat i j (by omega)
      have hc := lb_lt_iff h2 a ((i + j) / 2) (by omega)
      simp (disch := first | omega | (simp only [List.length_append, List.length_map, List.length_cons, List.length_nil, List.length_replicate, List.length_drop, List.length_take]; omega) | (simp only [hget_c, Nat.reduceEqDiff, ↓reduceIte]; done) | assumption | (simp (disch := omega) only [hg_ne, hg_eq, hgs_ne, *]; done) | (simp only [LAWSm]; done) | with_unfolding_all rfl) only [unf b81_0.eq_1, c81, this, LAWSm, hh, cmpC_spec, EV1, EV2, EV3, EV4, EV5, w_lp1, w_lp0, ca_0, ca_s, Nat.reduceAdd, Nat.reduceSub, Int.reduceToNat, Nat.reduceMul, Nat.reduceEqDiff, Nat.reduceLeDiff, Int.reduceEq, Int.reduceLT, Int.reduceLE, ↓reduceIte, List.length_cons, List.length_nil, List.getElem?_cons_zero, List.getElem?_cons_succ, if_true, if_false, Ck_pos, List.all_cons, List.all_nil, Bool.and_self, Bool.and_true, Bool.true_and, beq_self_eq_true, eq_self, Bool.not_true, Bool.not_false, decide_true, decide_false, and_self, true_and, and_true, List.drop_zero, List.drop_succ_cons, List.take_succ_cons, List.take_zero, List.take_nil, List.drop_nil, List.cons_append, List.nil_append, List.append_nil, Int.toNat_natCast, List.length_map, Nat.le_refl, Nat.zero_add, Nat.sub_zero, Nat.add_zero, take_full, List.replicate_succ, List.replicate_zero, List.set_cons_zero, List.set_cons_succ, Option.some.injEq, FV.bool.injEq, FV.int.injEq, most, deep, wrap64, wrapu64, wrapu8, wrapi8]
      repeat' (refine Ok_if (fun hb => ?_) (fun hb => ?_) <;> have h := hb <;> (try simp only [decide_eq_true_eq, decide_eq_false_iff_not, Int.not_lt, Int.not_le] at h) <;> (simp (disch := first | omega | (simp only [List.length_append, List.length_map, List.length_cons, List.length_nil, List.length_replicate, List.length_drop, List.length_take]; omega) | (simp only [hget_c, Nat.reduceEqDiff, ↓reduceIte]; done) | assumption | (simp (disch := omega) only [hg_ne, hg_eq, hgs_ne, *]; done) | (simp only [LAWSm]; done) | with_unfolding_all rfl) only [hb, c81, LAWSm, gd_m, cmpC_spec, EV1, EV2, EV3, EV4, EV5, w_lp1, w_lp0, ca_0, ca_s, Nat.reduceAdd, Nat.reduceSub, Int.reduceToNat, Nat.reduceMul, Nat.reduceEqDiff, Nat.reduceLeDiff, Int.reduceEq, Int.reduceLT, Int.reduceLE, ↓reduceIte, List.length_cons, List.length_nil, List.getElem?_cons_zero, List.getElem?_cons_succ, if_true, if_false, Ck_pos, List.all_cons, List.all_nil, Bool.and_self, Bool.and_true, Bool.true_and, beq_self_eq_true, eq_self, Bool.not_true, Bool.not_false, decide_true, decide_false, and_self, true_and, and_true, List.drop_zero, List.drop_succ_cons, List.take_succ_cons, List.take_zero, List.take_nil, List.drop_nil, List.cons_append, List.nil_append, List.append_nil, Int.toNat_natCast, List.length_map, Nat.le_refl, Nat.zero_add, Nat.sub_zero, Nat.add_zero, take_full, List.replicate_succ, List.replicate_zero, List.set_cons_zero, List.set_cons_succ, Option.some.injEq, FV.bool.injEq, FV.int.injEq, most, deep, wrap64, wrapu64, wrapu8, wrapi8]) <;> (try clear hb))
      · have : (m.getD ((i + j) / 2) (0, 0)).1 < a := by
          rcases Int.lt_or_le (m.getD ((i + j) / 2) (0, 0)).1 a with h0 | h0
          · exact h0
          · rw [if_neg (by omega)] at h; split at h <;> omega
        exact Ok_inL (by decide) (by simp [lowTm, low, lows, LAWSm]) (by simp [cutH, lowHeap, lowObj, lows, low, LAWSm]) (ih ((i + j) / 2 + 1) j (by omega) (by omega) hj hm)
      · have : ¬ (m.getD ((i + j) / 2) (0, 0)).1 < a := fun h0 => by
          rw [if_pos h0] at h; omega
        exact Ok_inL (by decide) (by simp [lowTm, low, lows, LAWSm]) (by simp [cutH, lowHeap, lowObj, lows, low, LAWSm]) (ih i ((i + j) / 2) (by omega) hi (by omega) (by omega))
    · exact ih i j (by omega) hi hj hm
theorem bsC_spec (e : Bool) (m : Mem) (a : Int) (hs : memS m) : ∀ h nx, lim T 81 [.lst e (m.map ceV), .int .u64 a, .fn 82 []] h nx = some (.tup [.int .i64 (lbM m a), .bool (foundM m a)], h, nx) := by
  have h1 := hs.1
  refine lim_iso tg81 rfl rfl (by simp [pures, pure_, pu_m]) ?_
  simp (disch := first | omega | (simp only [List.length_append, List.length_map, List.length_cons, List.length_nil, List.length_replicate, List.length_drop, List.length_take]; omega) | (simp only [hget_c, Nat.reduceEqDiff, ↓reduceIte]; done) | assumption | (simp (disch := omega) only [hg_ne, hg_eq, hgs_ne, *]; done) | (simp only [LAWSm]; done) | with_unfolding_all rfl) only [c81, LAWSm, EV1, EV2, EV3, EV4, EV5, w_lp1, w_lp0, ca_0, ca_s, Nat.reduceAdd, Nat.reduceSub, Int.reduceToNat, Nat.reduceMul, Nat.reduceEqDiff, Nat.reduceLeDiff, Int.reduceEq, Int.reduceLT, Int.reduceLE, ↓reduceIte, List.length_cons, List.length_nil, List.getElem?_cons_zero, List.getElem?_cons_succ, if_true, if_false, Ck_pos, List.all_cons, List.all_nil, Bool.and_self, Bool.and_true, Bool.true_and, beq_self_eq_true, eq_self, Bool.not_true, Bool.not_false, decide_true, decide_false, and_self, true_and, and_true, List.drop_zero, List.drop_succ_cons, List.take_succ_cons, List.take_zero, List.take_nil, List.drop_nil, List.cons_append, List.nil_append, List.append_nil, Int.toNat_natCast, List.length_map, Nat.le_refl, Nat.zero_add, Nat.sub_zero, Nat.add_zero, take_full, List.replicate_succ, List.replicate_zero, List.set_cons_zero, List.set_cons_succ, Option.some.injEq, FV.bool.injEq, FV.int.injEq, most, deep, wrap64, wrapu64, wrapu8, wrapi8]
  exact bsC_loop e m a hs m.length 0 m.length (by omega) (by omega) (lbM_le m a) (by omega)
/-- The byte at an address. -/
def byteS (m : Mem) (a : Int) : Int := if foundM m a = true then (m.getD (lbM m a) (0, 0)).2 else 0
def addrS (w at_ : Int) (i : Nat) : Int := (at_ + i) % 18446744073709551616 % 2 ^ w.toNat
def ldS (m : Mem) (w at_ : Int) : Nat → Nat
  | 0 => 0
  | i + 1 => ldS m w at_ i ||| (byteS m (addrS w at_ i)).toNat <<< (8 * i)
def okM (m : Mem) : Prop := ∀ p ∈ m, 0 ≤ p.1 ∧ p.1 < 18446744073709551616 ∧ 0 ≤ p.2 ∧ p.2 < 256
theorem byteS_bd {m : Mem} (h : okM m) (a : Int) : 0 ≤ byteS m a ∧ byteS m a < 256 := by
  unfold byteS
  split
  · rename_i hf
    unfold foundM at hf
    have := h _ (getD_mem (d := (0, 0)) (of_decide_eq_true hf).1)
    omega
  · omega
theorem ldS_lt {m : Mem} (h : okM m) (w at_ : Int) : ∀ n, ldS m w at_ n < 2 ^ (8 * n) := by
  intro n
  induction n with
  | zero => simp [ldS]
  | succ n ih =>
    have hb := byteS_bd h (addrS w at_ n)
    simp only [ldS]
    refine Nat.or_lt_two_pow (Nat.lt_of_lt_of_le ih (Nat.pow_le_pow_right (by decide) (by omega))) ?_
    rw [Nat.shiftLeft_eq, show 8 * (n + 1) = 8 + 8 * n by omega, Nat.pow_add]
    exact Nat.mul_lt_mul_of_pos_right (by omega) (Nat.pow_pos (by decide))
theorem loaded_loop (e : Bool) (m : Mem) (w at_ : Int) (n : Nat) (hs : memS m) (hm : okM m) (hw : 1 ≤ w) (hw' : w ≤ 64) (ha : 0 ≤ at_) (ha' : at_ < 18446744073709551616) (hn : n ≤ 8) : ∀ (k i : Nat), i + k = n →
    @Ok Out (runs T [.code b50_0, .inL (some 5) b50_0, .inB 0, .code k50_1] [(0, .lst e (m.map ceV)), (1, .int .i64 w), (2, .int .u64 at_), (9, .int .u64 (ldS m w at_ i : Nat)), (15, .int .i64 n), (16, .int .i64 i)] [] 5) ⟨fun x => resV c50.res x = some (.int .u64 (ldS m w at_ n : Nat))⟩ := by
  obtain ⟨h1, h2⟩ := hs
  intro k
  induction k with
  | zero =>
    intro i hi
    have : ¬ (i : Int) < n := by omega
    simp (disch := first | omega | (simp only [List.length_append, List.length_map, List.length_cons, List.length_nil, List.length_replicate, List.length_drop, List.length_take]; omega) | (simp only [hget_c, Nat.reduceEqDiff, ↓reduceIte]; done) | assumption | (simp (disch := omega) only [hg_ne, hg_eq, hgs_ne, *]; done) | (simp only [LAWSm]; done) | with_unfolding_all rfl) only [unf b50_0.eq_1, unf k50_1.eq_1, c50, this, LAWSm, EV1, EV2, EV3, EV4, EV5, w_lp1, w_lp0, ca_0, ca_s, Nat.reduceAdd, Nat.reduceSub, Int.reduceToNat, Nat.reduceMul, Nat.reduceEqDiff, Nat.reduceLeDiff, Int.reduceEq, Int.reduceLT, Int.reduceLE, ↓reduceIte, List.length_cons, List.length_nil, List.getElem?_cons_zero, List.getElem?_cons_succ, if_true, if_false, Ck_pos, List.all_cons, List.all_nil, Bool.and_self, Bool.and_true, Bool.true_and, beq_self_eq_true, eq_self, Bool.not_true, Bool.not_false, decide_true, decide_false, and_self, true_and, and_true, List.drop_zero, List.drop_succ_cons, List.take_succ_cons, List.take_zero, List.take_nil, List.drop_nil, List.cons_append, List.nil_append, List.append_nil, Int.toNat_natCast, List.length_map, Nat.le_refl, Nat.zero_add, Nat.sub_zero, Nat.add_zero, take_full, List.replicate_succ, List.replicate_zero, List.set_cons_zero, List.set_cons_succ, Option.some.injEq, FV.bool.injEq, FV.int.injEq, most, deep, wrap64, wrapu64, wrapu8, wrapi8]
    rw [show i = n by omega]
  | succ k ih =>
    intro i hi
    have : (i : Int) < n := by omega
    have hw1 : IntKind.u64.wrap i = i := by rw [wrapu (by omega)]; omega
    have hw2 : IntKind.u64.wrap (at_ + i) = (at_ + i) % 18446744073709551616 := wrapu (by omega)
    have hm1 := band_mask (a := (at_ + i) % 18446744073709551616) (n := w.toNat) (by omega) (by omega) (by omega)
    have hb := bsC_spec e m (addrS w at_ i) ⟨h1, h2⟩
    unfold addrS at hb
    have hbd := byteS_bd hm (addrS w at_ i)
    have hbv : byteS m (addrS w at_ i) = if foundM m (addrS w at_ i) = true then (m.getD (lbM m (addrS w at_ i)) (0, 0)).2 else 0 := rfl
    have hlt := ldS_lt hm w at_ i
    have hp8 : (2 : Nat) ^ (8 * i) ≤ 2 ^ 56 := Nat.pow_le_pow_right (by decide) (by omega)
    have hsl := shl_nat (a := byteS m (addrS w at_ i)) (n := 8 * i) hbd.1 (by omega) (by
      have h8 : ((2 : Int) ^ (8 * i)) ≤ 2 ^ 56 := pow_le (by omega)
      have := Int.mul_le_mul (show byteS m (addrS w at_ i) ≤ 255 by omega) h8 (by have := pow_pos' (8 * i); omega) (by decide)
      omega)
    have hls : ldS m w at_ (i + 1) = ldS m w at_ i ||| (byteS m (addrS w at_ i)).toNat <<< (8 * i) := rfl
    have hl2 := ldS_lt hm w at_ (i + 1)
    have hq8 : (2 : Nat) ^ (8 * (i + 1)) ≤ 2 ^ 64 := Nat.pow_le_pow_right (by decide) (by omega)
    have hs2 : (byteS m (addrS w at_ i)).toNat <<< (8 * i) ≤ ldS m w at_ (i + 1) := by rw [hls]; exact Nat.right_le_or
    have hor := bor_nat (a := (ldS m w at_ i : Nat)) (b := ((byteS m (addrS w at_ i)).toNat <<< (8 * i) : Nat)) (by omega) (by omega) (Int.natCast_nonneg _) (by omega)
    simp only [Int.toNat_natCast, ← hls] at hor
    rw [← hsl] at hor
    simp only [Int.natCast_mul, Int.cast_ofNat_Int] at hor
    cases hf : foundM m (addrS w at_ i) with
    | true =>
      have hlm : lbM m (addrS w at_ i) < m.length := by unfold foundM at hf; exact (of_decide_eq_true hf).1
      rw [if_pos hf] at hbv
      rw [hbv] at hor hbd
      unfold addrS at hor hbd hf hlm
      simp (disch := first | omega | (simp only [List.length_append, List.length_map, List.length_cons, List.length_nil, List.length_replicate, List.length_drop, List.length_take]; omega) | (simp only [hget_c, Nat.reduceEqDiff, ↓reduceIte]; done) | assumption | (simp (disch := omega) only [hg_ne, hg_eq, hgs_ne, *]; done) | (simp only [LAWSm]; done) | with_unfolding_all rfl) only [unf b50_0.eq_1, c50, this, LAWSm, mask_spec' w hw hw', hw1, hw2, hm1, hb, hf, hlm, gd_m, hor, EV1, EV2, EV3, EV4, EV5, w_lp1, w_lp0, ca_0, ca_s, Nat.reduceAdd, Nat.reduceSub, Int.reduceToNat, Nat.reduceMul, Nat.reduceEqDiff, Nat.reduceLeDiff, Int.reduceEq, Int.reduceLT, Int.reduceLE, ↓reduceIte, List.length_cons, List.length_nil, List.getElem?_cons_zero, List.getElem?_cons_succ, if_true, if_false, Ck_pos, List.all_cons, List.all_nil, Bool.and_self, Bool.and_true, Bool.true_and, beq_self_eq_true, eq_self, Bool.not_true, Bool.not_false, decide_true, decide_false, and_self, true_and, and_true, List.drop_zero, List.drop_succ_cons, List.take_succ_cons, List.take_zero, List.take_nil, List.drop_nil, List.cons_append, List.nil_append, List.append_nil, Int.toNat_natCast, List.length_map, Nat.le_refl, Nat.zero_add, Nat.sub_zero, Nat.add_zero, take_full, List.replicate_succ, List.replicate_zero, List.set_cons_zero, List.set_cons_succ, Option.some.injEq, FV.bool.injEq, FV.int.injEq, most, deep, wrap64, wrapu64, wrapu8, wrapi8]
      exact Ok_inL (by decide) (by simp [lowTm, low, lows, LAWSm]) (by simp [cutH, lowHeap, lowObj, lows, low, LAWSm]) (ih (i + 1) (by omega))
    | false =>
      rw [if_neg (by simp [hf])] at hbv
      have heq : ldS m w at_ (i + 1) = ldS m w at_ i := by rw [hls, hbv]; simp
      have hih := ih (i + 1) (by omega)
      rw [heq] at hih
      unfold addrS at hf
      simp (disch := first | omega | (simp only [List.length_append, List.length_map, List.length_cons, List.length_nil, List.length_replicate, List.length_drop, List.length_take]; omega) | (simp only [hget_c, Nat.reduceEqDiff, ↓reduceIte]; done) | assumption | (simp (disch := omega) only [hg_ne, hg_eq, hgs_ne, *]; done) | (simp only [LAWSm]; done) | with_unfolding_all rfl) only [unf b50_0.eq_1, c50, this, LAWSm, mask_spec' w hw hw', hw1, hw2, hm1, hb, hf, EV1, EV2, EV3, EV4, EV5, w_lp1, w_lp0, ca_0, ca_s, Nat.reduceAdd, Nat.reduceSub, Int.reduceToNat, Nat.reduceMul, Nat.reduceEqDiff, Nat.reduceLeDiff, Int.reduceEq, Int.reduceLT, Int.reduceLE, ↓reduceIte, List.length_cons, List.length_nil, List.getElem?_cons_zero, List.getElem?_cons_succ, if_true, if_false, Ck_pos, List.all_cons, List.all_nil, Bool.and_self, Bool.and_true, Bool.true_and, beq_self_eq_true, eq_self, Bool.not_true, Bool.not_false, decide_true, decide_false, and_self, true_and, and_true, List.drop_zero, List.drop_succ_cons, List.take_succ_cons, List.take_zero, List.take_nil, List.drop_nil, List.cons_append, List.nil_append, List.append_nil, Int.toNat_natCast, List.length_map, Nat.le_refl, Nat.zero_add, Nat.sub_zero, Nat.add_zero, take_full, List.replicate_succ, List.replicate_zero, List.set_cons_zero, List.set_cons_succ, Option.some.injEq, FV.bool.injEq, FV.int.injEq, most, deep, wrap64, wrapu64, wrapu8, wrapi8]
      exact Ok_inL (by decide) (by simp [lowTm, low, lows, LAWSm]) (by simp [cutH, lowHeap, lowObj, lows, low, LAWSm]) (hih)
theorem loaded_spec (e : Bool) (m : Mem) (w at_ : Int) (n : Nat) (hs : memS m) (hm : okM m) (hw : 1 ≤ w) (hw' : w ≤ 64) (ha : 0 ≤ at_) (ha' : at_ < 18446744073709551616) (hn : n ≤ 64) : ∀ h nx, lim T 50 [.lst e (m.map ceV), .int .i64 w, .int .u64 at_, .int .i64 n] h nx = some (.int .u64 (ldS m w at_ (n / 8) : Nat), h, nx) := by
  refine lim_iso tg50 rfl rfl (by simp [pures, pure_, pu_m]) ?_
  simp (disch := first | omega | (simp only [List.length_append, List.length_map, List.length_cons, List.length_nil, List.length_replicate, List.length_drop, List.length_take]; omega) | (simp only [hget_c, Nat.reduceEqDiff, ↓reduceIte]; done) | assumption | (simp (disch := omega) only [hg_ne, hg_eq, hgs_ne, *]; done) | (simp only [LAWSm]; done) | with_unfolding_all rfl) only [c50, LAWSm, tdiv_nn, EV1, EV2, EV3, EV4, EV5, w_lp1, w_lp0, ca_0, ca_s, Nat.reduceAdd, Nat.reduceSub, Int.reduceToNat, Nat.reduceMul, Nat.reduceEqDiff, Nat.reduceLeDiff, Int.reduceEq, Int.reduceLT, Int.reduceLE, ↓reduceIte, List.length_cons, List.length_nil, List.getElem?_cons_zero, List.getElem?_cons_succ, if_true, if_false, Ck_pos, List.all_cons, List.all_nil, Bool.and_self, Bool.and_true, Bool.true_and, beq_self_eq_true, eq_self, Bool.not_true, Bool.not_false, decide_true, decide_false, and_self, true_and, and_true, List.drop_zero, List.drop_succ_cons, List.take_succ_cons, List.take_zero, List.take_nil, List.drop_nil, List.cons_append, List.nil_append, List.append_nil, Int.toNat_natCast, List.length_map, Nat.le_refl, Nat.zero_add, Nat.sub_zero, Nat.add_zero, take_full, List.replicate_succ, List.replicate_zero, List.set_cons_zero, List.set_cons_succ, Option.some.injEq, FV.bool.injEq, FV.int.injEq, most, deep, wrap64, wrapu64, wrapu8, wrapi8]
  exact loaded_loop e m w at_ (n / 8) hs hm hw hw' ha ha' (by omega) (n / 8) 0 (by omega)
open Classical in
noncomputable def loadS (m : Mem) (w at_ : Int) (n : Nat) : FV :=
  if memS m then if (1 ≤ w ∧ w ≤ 64) ∧ loadsS n then if okS w at_ then .tup [.int .u64 (ldS m w at_ (n / 8) : Nat), .int .i64 0] else .tup [.int .u64 0, .int .i64 8] else .tup [.int .u64 0, .int .i64 14] else .tup [.int .u64 0, .int .i64 8]
theorem load_spec (e : Bool) (m : Mem) (w at_ : Int) (n : Nat) (hm : okM m) (h0 : m.length ≤ 9223372036854775807) (ha : 0 ≤ at_) (ha' : at_ < 18446744073709551616) : ∀ h nx, lim T 13 [.lst e (m.map ceV), .int .i64 w, .int .u64 at_, .int .i64 n] h nx = some (loadS m w at_ n, h, nx) := by
  have c1 := checkCells_spec e m h0
  refine lim_iso tg13 rfl rfl (by simp [pures, pure_, pu_m]) ?_
  simp (disch := first | omega | (simp only [List.length_append, List.length_map, List.length_cons, List.length_nil, List.length_replicate, List.length_drop, List.length_take]; omega) | (simp only [hget_c, Nat.reduceEqDiff, ↓reduceIte]; done) | assumption | (simp (disch := omega) only [hg_ne, hg_eq, hgs_ne, *]; done) | (simp only [LAWSm]; done) | with_unfolding_all rfl) only [c13, LAWSm, c1, EV1, EV2, EV3, EV4, EV5, w_lp1, w_lp0, ca_0, ca_s, Nat.reduceAdd, Nat.reduceSub, Int.reduceToNat, Nat.reduceMul, Nat.reduceEqDiff, Nat.reduceLeDiff, Int.reduceEq, Int.reduceLT, Int.reduceLE, ↓reduceIte, List.length_cons, List.length_nil, List.getElem?_cons_zero, List.getElem?_cons_succ, if_true, if_false, Ck_pos, List.all_cons, List.all_nil, Bool.and_self, Bool.and_true, Bool.true_and, beq_self_eq_true, eq_self, Bool.not_true, Bool.not_false, decide_true, decide_false, and_self, true_and, and_true, List.drop_zero, List.drop_succ_cons, List.take_succ_cons, List.take_zero, List.take_nil, List.drop_nil, List.cons_append, List.nil_append, List.append_nil, Int.toNat_natCast, List.length_map, Nat.le_refl, Nat.zero_add, Nat.sub_zero, Nat.add_zero, take_full, List.replicate_succ, List.replicate_zero, List.set_cons_zero, List.set_cons_succ, Option.some.injEq, FV.bool.injEq, FV.int.injEq, most, deep, wrap64, wrapu64, wrapu8, wrapi8]
  repeat' (refine Ok_if (fun hb => ?_) (fun hb => ?_) <;> have h := hb <;> (try simp only [decide_eq_true_eq, decide_eq_false_iff_not, Int.not_lt, Int.not_le] at h) <;> (simp (disch := first | omega | (simp only [List.length_append, List.length_map, List.length_cons, List.length_nil, List.length_replicate, List.length_drop, List.length_take]; omega) | (simp only [hget_c, Nat.reduceEqDiff, ↓reduceIte]; done) | assumption | (simp (disch := omega) only [hg_ne, hg_eq, hgs_ne, *]; done) | (simp only [LAWSm]; done) | with_unfolding_all rfl) only [hb, c13, LAWSm, wideT_spec, loadable_spec, okB_spec, EV1, EV2, EV3, EV4, EV5, w_lp1, w_lp0, ca_0, ca_s, Nat.reduceAdd, Nat.reduceSub, Int.reduceToNat, Nat.reduceMul, Nat.reduceEqDiff, Nat.reduceLeDiff, Int.reduceEq, Int.reduceLT, Int.reduceLE, ↓reduceIte, List.length_cons, List.length_nil, List.getElem?_cons_zero, List.getElem?_cons_succ, if_true, if_false, Ck_pos, List.all_cons, List.all_nil, Bool.and_self, Bool.and_true, Bool.true_and, beq_self_eq_true, eq_self, Bool.not_true, Bool.not_false, decide_true, decide_false, and_self, true_and, and_true, List.drop_zero, List.drop_succ_cons, List.take_succ_cons, List.take_zero, List.take_nil, List.drop_nil, List.cons_append, List.nil_append, List.append_nil, Int.toNat_natCast, List.length_map, Nat.le_refl, Nat.zero_add, Nat.sub_zero, Nat.add_zero, take_full, List.replicate_succ, List.replicate_zero, List.set_cons_zero, List.set_cons_succ, Option.some.injEq, FV.bool.injEq, FV.int.injEq, most, deep, wrap64, wrapu64, wrapu8, wrapi8]) <;> (try clear hb))
  all_goals first
    | (have hmS : memS m := by
        unfold chkM at *
        by_cases hh : memS m
        · exact hh
        · simp_all)
    | (have hmS : ¬ memS m := by
        intro hh
        unfold chkM at *
        simp_all)
  · rename_i hq1 hq2 hq3 
    have h64 : n ≤ 64 := by unfold loadsS at hq3; omega
    have c2 := loaded_spec e m w at_ n hmS hm hq2.1 hq2.2 ha ha' h64
    simp (disch := first | omega | (simp only [List.length_append, List.length_map, List.length_cons, List.length_nil, List.length_replicate, List.length_drop, List.length_take]; omega) | (simp only [hget_c, Nat.reduceEqDiff, ↓reduceIte]; done) | assumption | (simp (disch := omega) only [hg_ne, hg_eq, hgs_ne, *]; done) | (simp only [LAWSm]; done) | with_unfolding_all rfl) only [c13, LAWSm, c2, EV1, EV2, EV3, EV4, EV5, w_lp1, w_lp0, ca_0, ca_s, Nat.reduceAdd, Nat.reduceSub, Int.reduceToNat, Nat.reduceMul, Nat.reduceEqDiff, Nat.reduceLeDiff, Int.reduceEq, Int.reduceLT, Int.reduceLE, ↓reduceIte, List.length_cons, List.length_nil, List.getElem?_cons_zero, List.getElem?_cons_succ, if_true, if_false, Ck_pos, List.all_cons, List.all_nil, Bool.and_self, Bool.and_true, Bool.true_and, beq_self_eq_true, eq_self, Bool.not_true, Bool.not_false, decide_true, decide_false, and_self, true_and, and_true, List.drop_zero, List.drop_succ_cons, List.take_succ_cons, List.take_zero, List.take_nil, List.drop_nil, List.cons_append, List.nil_append, List.append_nil, Int.toNat_natCast, List.length_map, Nat.le_refl, Nat.zero_add, Nat.sub_zero, Nat.add_zero, take_full, List.replicate_succ, List.replicate_zero, List.set_cons_zero, List.set_cons_succ, Option.some.injEq, FV.bool.injEq, FV.int.injEq, most, deep, wrap64, wrapu64, wrapu8, wrapi8]
    simp [loadS, hmS, hq2, hq3, h]
  · simp_all [loadS]
  · simp_all [loadS]
  · simp only [loadS, if_pos hmS]
    rw [if_neg (by intro hq; exact h hq.1)]
  · simp_all [loadS, chkM]
end Go.Proofs.YtkobnfjeehnhlaaGreatDoor.Fi

