/- Parts of the proof, after each other. -/
import Derived.Test.YtkobnfjeehnhlaaDoorP1
import Derived.Test.YtkobnfjeehnhlaaDoorFIRep
set_option linter.all false
set_option linter.unusedSimpArgs false
set_option linter.unusedVariables false
set_option linter.unusedSectionVars false
namespace Go.Proofs.YtkobnfjeehnhlaaDoor.Fi
open Go.FI

theorem rWide_spec (w : Int) : ∀ h nx, lim T 58 [.int .i64 w] h nx = some (.bool (decide (1 ≤ w ∧ w ≤ 64)), h, nx) := by
  refine lim_iso tg58 rfl rfl rfl ?_
  simp (disch := first | omega | (simp only [EVL] <;> omega) | (simp only [hget_c, Nat.reduceEqDiff, ↓reduceIte]; done) | assumption | (simp (disch := omega) only [hg_ne, hg_eq, hgs_ne, *]; done) | (simp only [TL]; done) | with_unfolding_all rfl) only [c58, EVS, Nat.reduceAdd, Nat.reduceSub, Int.reduceToNat, Nat.reduceMul, Nat.reduceEqDiff, Nat.reduceLeDiff, Int.reduceEq, Int.reduceLT, Int.reduceLE, ↓reduceIte]
  repeat' (refine Ok_if (fun hb => ?_) (fun hb => ?_) <;> have h := hb <;> (try simp only [decide_eq_true_eq, decide_eq_false_iff_not, Int.not_lt, Int.not_le] at h) <;> (simp (disch := first | omega | (simp only [EVL] <;> omega) | (simp only [hget_c, Nat.reduceEqDiff, ↓reduceIte]; done) | assumption | (simp (disch := omega) only [hg_ne, hg_eq, hgs_ne, *]; done) | (simp only [TL]; done) | with_unfolding_all rfl) only [hb, c58, EVS, Nat.reduceAdd, Nat.reduceSub, Int.reduceToNat, Nat.reduceMul, Nat.reduceEqDiff, Nat.reduceLeDiff, Int.reduceEq, Int.reduceLT, Int.reduceLE, ↓reduceIte]) <;> (try clear hb))
  all_goals simp_all
  all_goals omega
theorem pow_bd : ∀ n : Nat, n < 63 → (2 : Int) ^ n ≤ 4611686018427387904 := by decide +kernel
theorem rPower_spec (n : Nat) (hn : n ≤ 63) : ∀ h nx, lim T 94 [.int .i64 n] h nx = some (.int .u64 (2 ^ n), h, nx) := by
  have key : ∀ (k i : Nat), i + k = n → @Ok Out (runs T [.code b94_0, .inL (some 3) b94_0, .inB 0, .code k94_1] [(0, .int .i64 n), (3, .int .u64 (2 ^ i)), (4, .int .i64 i)] [] 3) ⟨fun x => resV c94.res x = some (.int .u64 (2 ^ n))⟩ := by
    intro k
    induction k with
    | zero =>
      intro i hi
      have : ¬ (i : Int) < n := by omega
      simp (disch := first | omega | (simp only [EVL] <;> omega) | (simp only [hget_c, Nat.reduceEqDiff, ↓reduceIte]; done) | assumption | (simp (disch := omega) only [hg_ne, hg_eq, hgs_ne, *]; done) | (simp only [TL]; done) | with_unfolding_all rfl) only [unf b94_0.eq_1, unf k94_1.eq_1, c94, this, EVS, Nat.reduceAdd, Nat.reduceSub, Int.reduceToNat, Nat.reduceMul, Nat.reduceEqDiff, Nat.reduceLeDiff, Int.reduceEq, Int.reduceLT, Int.reduceLE, ↓reduceIte]
      rw [show i = n by omega]
    | succ k ih =>
      intro i hi
      have : (i : Int) < n := by omega
      have hp := pow_bd i (by omega)
      have hp0 : (0 : Int) ≤ 2 ^ i := Int.pow_nonneg (by decide)
      have hs : (2 : Int) ^ (i + 1) = 2 ^ i + 2 ^ i := by rw [Int.pow_succ]; omega
      have hw : IntKind.u64.wrap (2 ^ i + 2 ^ i) = 2 ^ (i + 1) := by
        rw [hs]
        exact wrapu64 (Int.add_nonneg hp0 hp0) (Int.le_trans (Int.add_le_add hp hp) (by decide))
      simp (disch := first | omega | (simp only [EVL] <;> omega) | (simp only [hget_c, Nat.reduceEqDiff, ↓reduceIte]; done) | assumption | (simp (disch := omega) only [hg_ne, hg_eq, hgs_ne, *]; done) | (simp only [TL]; done) | with_unfolding_all rfl) only [unf b94_0.eq_1, c94, this, hw, EVS, Nat.reduceAdd, Nat.reduceSub, Int.reduceToNat, Nat.reduceMul, Nat.reduceEqDiff, Nat.reduceLeDiff, Int.reduceEq, Int.reduceLT, Int.reduceLE, ↓reduceIte]
      exact Ok_inL (by decide) (by simp [lowTm, low, lows, TL]) (by simp [cutH, lowHeap, lowObj, lows, low, TL]) (ih (i + 1) (by omega))
  refine lim_iso tg94 rfl rfl rfl ?_
  simp (disch := first | omega | (simp only [EVL] <;> omega) | (simp only [hget_c, Nat.reduceEqDiff, ↓reduceIte]; done) | assumption | (simp (disch := omega) only [hg_ne, hg_eq, hgs_ne, *]; done) | (simp only [TL]; done) | with_unfolding_all rfl) only [c94, EVS, Nat.reduceAdd, Nat.reduceSub, Int.reduceToNat, Nat.reduceMul, Nat.reduceEqDiff, Nat.reduceLeDiff, Int.reduceEq, Int.reduceLT, Int.reduceLE, ↓reduceIte]
  exact key n 0 (by omega)
open Classical in
theorem rOk_spec (w x : Int) (hx : x < 18446744073709551616) : ∀ h nx, lim T 59 [.int .i64 w, .int .u64 x] h nx = some (.bool (decide (okS w x)), h, nx) := by
  refine lim_iso tg59 rfl rfl rfl ?_
  simp (disch := first | omega | (simp only [EVL] <;> omega) | (simp only [hget_c, Nat.reduceEqDiff, ↓reduceIte]; done) | assumption | (simp (disch := omega) only [hg_ne, hg_eq, hgs_ne, *]; done) | (simp only [TL]; done) | with_unfolding_all rfl) only [c59, rWide_spec, EVS, Nat.reduceAdd, Nat.reduceSub, Int.reduceToNat, Nat.reduceMul, Nat.reduceEqDiff, Nat.reduceLeDiff, Int.reduceEq, Int.reduceLT, Int.reduceLE, ↓reduceIte]
  repeat' (refine Ok_if (fun hb => ?_) (fun hb => ?_) <;> have h := hb <;> (try simp only [decide_eq_true_eq, decide_eq_false_iff_not, Int.not_lt, Int.not_le] at h) <;> (simp (disch := first | omega | (simp only [EVL] <;> omega) | (simp only [hget_c, Nat.reduceEqDiff, ↓reduceIte]; done) | assumption | (simp (disch := omega) only [hg_ne, hg_eq, hgs_ne, *]; done) | (simp only [TL]; done) | with_unfolding_all rfl) only [hb, c59, EVS, Nat.reduceAdd, Nat.reduceSub, Int.reduceToNat, Nat.reduceMul, Nat.reduceEqDiff, Nat.reduceLeDiff, Int.reduceEq, Int.reduceLT, Int.reduceLE, ↓reduceIte]) <;> (try clear hb))
  · exact (decide_eq_true ⟨by omega, by omega, by rw [h]; show x < 18446744073709551616; omega⟩).symm
  · have h3 := rPower_spec w.toNat (by omega)
    rw [show ((w.toNat : Nat) : Int) = w by omega] at h3
    simp (disch := first | omega | (simp only [EVL] <;> omega) | (simp only [hget_c, Nat.reduceEqDiff, ↓reduceIte]; done) | assumption | (simp (disch := omega) only [hg_ne, hg_eq, hgs_ne, *]; done) | (simp only [TL]; done) | with_unfolding_all rfl) only [c59, h3, EVS, Nat.reduceAdd, Nat.reduceSub, Int.reduceToNat, Nat.reduceMul, Nat.reduceEqDiff, Nat.reduceLeDiff, Int.reduceEq, Int.reduceLT, Int.reduceLE, ↓reduceIte]
    exact decide_eq_decide.2 ⟨fun e => ⟨by omega, by omega, e⟩, fun e => e.2.2⟩
  · exact (decide_eq_false fun hn => h ⟨hn.1, hn.2.1⟩).symm
open Classical in
theorem rName_loop (s : List UInt8) (h1 : 1 ≤ s.length) (h2 : s.length ≤ 24) : ∀ (k i : Nat), i + k = s.length → (∀ j, j < i → okAt s j) →
    @Ok Out (runs T [.code b95_0, .inL (some 10) b95_0, .inB 0, .code k95_1] [(0, .str s), (3, .int .i64 i)] [] 10) ⟨fun x => resV c95.res x = some (.bool (decide (nameS s)))⟩ := by
  intro k
  induction k with
  | zero =>
    intro i hi hok
    have : ¬ (i : Int) < s.length := by omega
    simp (disch := first | omega | (simp only [EVL] <;> omega) | (simp only [hget_c, Nat.reduceEqDiff, ↓reduceIte]; done) | assumption | (simp (disch := omega) only [hg_ne, hg_eq, hgs_ne, *]; done) | (simp only [TL]; done) | with_unfolding_all rfl) only [unf b95_0.eq_1, unf k95_1.eq_1, c95, this, EVS, Nat.reduceAdd, Nat.reduceSub, Int.reduceToNat, Nat.reduceMul, Nat.reduceEqDiff, Nat.reduceLeDiff, Int.reduceEq, Int.reduceLT, Int.reduceLE, ↓reduceIte]
    exact (decide_eq_true ⟨h1, h2, fun j hj => hok j (by omega)⟩).symm
  | succ k ih =>
    intro i hi hok
    have hs : okAt s i → ∀ j, j < i + 1 → okAt s j := fun ho j hj => by
      by_cases e : j = i
      · subst e; exact ho
      · exact hok j (by omega)
    have : (i : Int) < s.length := by omega
    simp (disch := first | omega | (simp only [EVL] <;> omega) | (simp only [hget_c, Nat.reduceEqDiff, ↓reduceIte]; done) | assumption | (simp (disch := omega) only [hg_ne, hg_eq, hgs_ne, *]; done) | (simp only [TL]; done) | with_unfolding_all rfl) only [unf b95_0.eq_1, c95, this, EVS, Nat.reduceAdd, Nat.reduceSub, Int.reduceToNat, Nat.reduceMul, Nat.reduceEqDiff, Nat.reduceLeDiff, Int.reduceEq, Int.reduceLT, Int.reduceLE, ↓reduceIte]
    repeat' (refine Ok_if (fun hb => ?_) (fun hb => ?_) <;> have h := hb <;> (try simp only [decide_eq_true_eq, decide_eq_false_iff_not, Int.not_lt, Int.not_le] at h) <;> (simp (disch := first | omega | (simp only [EVL] <;> omega) | (simp only [hget_c, Nat.reduceEqDiff, ↓reduceIte]; done) | assumption | (simp (disch := omega) only [hg_ne, hg_eq, hgs_ne, *]; done) | (simp only [TL]; done) | with_unfolding_all rfl) only [hb, c95, EVS, Nat.reduceAdd, Nat.reduceSub, Int.reduceToNat, Nat.reduceMul, Nat.reduceEqDiff, Nat.reduceLeDiff, Int.reduceEq, Int.reduceLT, Int.reduceLE, ↓reduceIte]) <;> (try clear hb))
    all_goals first
      | exact Ok_inL (by decide) (by simp [lowTm, low]) (by simp [lowHeap, cutH]) (ih (i + 1) (by omega) (hs (by unfold okAt; omega)))
      | exact (decide_eq_false fun hn => by have := hn.2.2 i (by omega); unfold okAt at this; omega).symm
open Classical in
theorem rName_spec (s : List UInt8) : ∀ h nx, lim T 95 [.str s] h nx = some (.bool (decide (nameS s)), h, nx) := by
  refine lim_iso tg95 rfl rfl rfl ?_
  simp (disch := first | omega | (simp only [EVL] <;> omega) | (simp only [hget_c, Nat.reduceEqDiff, ↓reduceIte]; done) | assumption | (simp (disch := omega) only [hg_ne, hg_eq, hgs_ne, *]; done) | (simp only [TL]; done) | with_unfolding_all rfl) only [c95, EVS, Nat.reduceAdd, Nat.reduceSub, Int.reduceToNat, Nat.reduceMul, Nat.reduceEqDiff, Nat.reduceLeDiff, Int.reduceEq, Int.reduceLT, Int.reduceLE, ↓reduceIte]
  repeat' (refine Ok_if (fun hb => ?_) (fun hb => ?_) <;> have h := hb <;> (try simp only [decide_eq_true_eq, decide_eq_false_iff_not, Int.not_lt, Int.not_le] at h) <;> (simp (disch := first | omega | (simp only [EVL] <;> omega) | (simp only [hget_c, Nat.reduceEqDiff, ↓reduceIte]; done) | assumption | (simp (disch := omega) only [hg_ne, hg_eq, hgs_ne, *]; done) | (simp only [TL]; done) | with_unfolding_all rfl) only [hb, c95, EVS, Nat.reduceAdd, Nat.reduceSub, Int.reduceToNat, Nat.reduceMul, Nat.reduceEqDiff, Nat.reduceLeDiff, Int.reduceEq, Int.reduceLT, Int.reduceLE, ↓reduceIte]) <;> (try clear hb))
  · exact (decide_eq_false fun hn => by have := hn.1; omega).symm
  · exact (decide_eq_false fun hn => by have := hn.2.1; omega).symm
  · exact rName_loop s (by omega) (by omega) s.length 0 (by omega) (by omega)
open Classical in
theorem rVariable_spec (s : List UInt8) : ∀ h nx, lim T 60 [.str s] h nx = some (.bool (decide (nameS (strip s))), h, nx) := by
  refine lim_iso tg60 rfl rfl rfl ?_
  simp (disch := first | omega | (simp only [EVL] <;> omega) | (simp only [hget_c, Nat.reduceEqDiff, ↓reduceIte]; done) | assumption | (simp (disch := omega) only [hg_ne, hg_eq, hgs_ne, *]; done) | (simp only [TL]; done) | with_unfolding_all rfl) only [c60, rName_spec, EVS, Nat.reduceAdd, Nat.reduceSub, Int.reduceToNat, Nat.reduceMul, Nat.reduceEqDiff, Nat.reduceLeDiff, Int.reduceEq, Int.reduceLT, Int.reduceLE, ↓reduceIte]
  repeat' (refine Ok_if (fun hb => ?_) (fun hb => ?_) <;> have h := hb <;> (try simp only [decide_eq_true_eq, decide_eq_false_iff_not, Int.not_lt, Int.not_le] at h) <;> (simp (disch := first | omega | (simp only [EVL] <;> omega) | (simp only [hget_c, Nat.reduceEqDiff, ↓reduceIte]; done) | assumption | (simp (disch := omega) only [hg_ne, hg_eq, hgs_ne, *]; done) | (simp only [TL]; done) | with_unfolding_all rfl) only [hb, c60, rName_spec, EVS, Nat.reduceAdd, Nat.reduceSub, Int.reduceToNat, Nat.reduceMul, Nat.reduceEqDiff, Nat.reduceLeDiff, Int.reduceEq, Int.reduceLT, Int.reduceLE, ↓reduceIte]) <;> (try clear hb))
  · have e : strip s = s.drop 2 := if_pos ⟨by omega, by simpa using h⟩
    rw [e]
  · have e : strip s = s := if_neg fun hn => by simp [hn.2] at h
    rw [e]
  · by_cases e : 2 ≤ s.length ∧ s.take 2 = [114, 46]
    · have e1 : s = [114, 46] := by
        have := e.2
        rwa [List.take_of_length_le (by omega)] at this
      subst e1
      have e2 : ¬ nameS [114, 46] := fun hn => by
        have := hn.2.2 1 (by simp)
        simp [okAt] at this
      have e3 : ¬ nameS (strip [114, 46]) := fun hn => by
        have := hn.1
        simp [strip] at this
      rw [decide_eq_false e2, decide_eq_false e3]
    · have e : strip s = s := if_neg e
      rw [e]
theorem rLoads_spec (w : Int) : ∀ h nx, lim T 61 [.int .i64 w] h nx = some (.bool (decide (loadsS w)), h, nx) := by
  refine lim_iso tg61 rfl rfl rfl ?_
  simp (disch := first | omega | (simp only [EVL] <;> omega) | (simp only [hget_c, Nat.reduceEqDiff, ↓reduceIte]; done) | assumption | (simp (disch := omega) only [hg_ne, hg_eq, hgs_ne, *]; done) | (simp only [TL]; done) | with_unfolding_all rfl) only [c61, EVS, Nat.reduceAdd, Nat.reduceSub, Int.reduceToNat, Nat.reduceMul, Nat.reduceEqDiff, Nat.reduceLeDiff, Int.reduceEq, Int.reduceLT, Int.reduceLE, ↓reduceIte]
  repeat' (refine Ok_if (fun hb => ?_) (fun hb => ?_) <;> have h := hb <;> (try simp only [decide_eq_true_eq, decide_eq_false_iff_not, Int.not_lt, Int.not_le] at h) <;> (simp (disch := first | omega | (simp only [EVL] <;> omega) | (simp only [hget_c, Nat.reduceEqDiff, ↓reduceIte]; done) | assumption | (simp (disch := omega) only [hg_ne, hg_eq, hgs_ne, *]; done) | (simp only [TL]; done) | with_unfolding_all rfl) only [hb, c61, EVS, Nat.reduceAdd, Nat.reduceSub, Int.reduceToNat, Nat.reduceMul, Nat.reduceEqDiff, Nat.reduceLeDiff, Int.reduceEq, Int.reduceLT, Int.reduceLE, ↓reduceIte]) <;> (try clear hb))
  all_goals simp_all [loadsS]
theorem rSize_loop (t : Te) (ih : ∀ x ∈ t.l, ∀ h nx, lim T 19 [.agg [.int .u8 (x).k, .int .i64 (x).w, .int .u64 (x).b, .str (x).s, .int .i64 (x).lo, .lst (x).e ((x).l.map tV)]] h nx = some (.int .i64 (size x), h, nx)) (hl : t.l.length ≤ 1000000) : ∀ (k i n : Nat), i + k = t.l.length → n + sizes (t.l.drop i) ≤ 1000000 →
    @Ok Out (runs T [.code b19_0, .inL (some 4) b19_0, .inB 0, .code k19_1] [(1, .ptr 0 1 0 0), (3, .int .i64 n), (4, .int .i64 i)] [(0, .row 6 [.agg [.int .u8 (t).k, .int .i64 (t).w, .int .u64 (t).b, .str (t).s, .int .i64 (t).lo, .lst (t).e ((t).l.map tV)]])] 4) ⟨fun x => resV c19.res x = some (.int .i64 ((n + sizes (t.l.drop i) : Nat) : Int))⟩ := by
  intro k
  induction k with
  | zero =>
    intro i n hi h0
    have : ¬ (i : Int) < t.l.length := by omega
    simp (disch := first | omega | (simp only [EVL] <;> omega) | (simp only [hget_c, Nat.reduceEqDiff, ↓reduceIte]; done) | assumption | (simp (disch := omega) only [hg_ne, hg_eq, hgs_ne, *]; done) | (simp only [TL]; done) | with_unfolding_all rfl) only [unf b19_0.eq_1, unf k19_1.eq_1, c19, this, TL, EVS, Nat.reduceAdd, Nat.reduceSub, Int.reduceToNat, Nat.reduceMul, Nat.reduceEqDiff, Nat.reduceLeDiff, Int.reduceEq, Int.reduceLT, Int.reduceLE, ↓reduceIte]
    rw [List.drop_eq_nil_of_le (by omega)]
    show (n : Int) = ((n + 0 : Nat) : Int)
    omega
  | succ k ihk =>
    intro i n hi h0
    have : (i : Int) < t.l.length := by omega
    have hx := ih _ (getD_mem (d := default) (show i < t.l.length by omega))
    rw [sizes_drop (show i < t.l.length by omega)] at h0 ⊢
    have hq := ihk (i + 1) (n + size (t.l.getD i default)) (by omega) (by omega)
    simp (disch := first | omega | (simp only [EVL] <;> omega) | (simp only [hget_c, Nat.reduceEqDiff, ↓reduceIte]; done) | assumption | (simp (disch := omega) only [hg_ne, hg_eq, hgs_ne, *]; done) | (simp only [TL]; done) | with_unfolding_all rfl) only [unf b19_0.eq_1, c19, this, TL, hx, EVS, Nat.reduceAdd, Nat.reduceSub, Int.reduceToNat, Nat.reduceMul, Nat.reduceEqDiff, Nat.reduceLeDiff, Int.reduceEq, Int.reduceLT, Int.reduceLE, ↓reduceIte]
    rw [Nat.add_assoc] at hq
    exact Ok_inL (by decide) (by simp [lowTm, low, lows, TL]) (by simp [cutH, lowHeap, lowObj, lows, low, TL]) hq
theorem rSize_spec (t : Te) (hl : size t ≤ 1000000) : ∀ h nx, lim T 19 [.agg [.int .u8 (t).k, .int .i64 (t).w, .int .u64 (t).b, .str (t).s, .int .i64 (t).lo, .lst (t).e ((t).l.map tV)]] h nx = some (.int .i64 (size t), h, nx) := by
  induction t using Tm'.ind with
  | h t ih =>
  have hsz := sizes_len t.l
  have hse := size_eq t
  refine lim_iso tg19 rfl rfl (by simp [pures, pure_, pu_Ts]) ?_
  simp (disch := first | omega | (simp only [EVL] <;> omega) | (simp only [hget_c, Nat.reduceEqDiff, ↓reduceIte]; done) | assumption | (simp (disch := omega) only [hg_ne, hg_eq, hgs_ne, *]; done) | (simp only [TL]; done) | with_unfolding_all rfl) only [c19, TL, EVS, Nat.reduceAdd, Nat.reduceSub, Int.reduceToNat, Nat.reduceMul, Nat.reduceEqDiff, Nat.reduceLeDiff, Int.reduceEq, Int.reduceLT, Int.reduceLE, ↓reduceIte]
  have := rSize_loop t (fun x hx => ih x hx (by have := size_mem hx; omega)) (by omega) t.l.length 0 1 (by omega) (by rw [List.drop_zero]; omega)
  rw [List.drop_zero] at this
  rw [size_eq]
  exact this
theorem rDepth_loop (t : Te) (ih : ∀ x ∈ t.l, ∀ h nx, lim T 21 [.agg [.int .u8 (x).k, .int .i64 (x).w, .int .u64 (x).b, .str (x).s, .int .i64 (x).lo, .lst (x).e ((x).l.map tV)]] h nx = some (.int .i64 (depth x), h, nx)) (hl : t.l.length ≤ 1000000) (hd : depth t ≤ 1000000) : ∀ (k i : Nat) (d : Int), i + k = t.l.length → 0 ≤ d → d ≤ 1000000 →
    @Ok Out (runs T [.code b21_0, .inL (some 4) b21_0, .inB 0, .code k21_1] [(1, .ptr 0 1 0 0), (3, .int .i64 d), (4, .int .i64 i)] [(0, .row 6 [.agg [.int .u8 (t).k, .int .i64 (t).w, .int .u64 (t).b, .str (t).s, .int .i64 (t).lo, .lst (t).e ((t).l.map tV)]])] 4) ⟨fun x => resV c21.res x = some (.int .i64 (max d (depths (t.l.drop i)) + 1))⟩ := by
  intro k
  induction k with
  | zero =>
    intro i d hi h0 h1
    have : ¬ (i : Int) < t.l.length := by omega
    simp (disch := first | omega | (simp only [EVL] <;> omega) | (simp only [hget_c, Nat.reduceEqDiff, ↓reduceIte]; done) | assumption | (simp (disch := omega) only [hg_ne, hg_eq, hgs_ne, *]; done) | (simp only [TL]; done) | with_unfolding_all rfl) only [unf b21_0.eq_1, unf k21_1.eq_1, c21, this, TL, EVS, Nat.reduceAdd, Nat.reduceSub, Int.reduceToNat, Nat.reduceMul, Nat.reduceEqDiff, Nat.reduceLeDiff, Int.reduceEq, Int.reduceLT, Int.reduceLE, ↓reduceIte]
    rw [List.drop_eq_nil_of_le (by omega)]
    show d + 1 = max d ((0 : Nat) : Int) + 1
    omega
  | succ k ihk =>
    intro i d hi h0 h1
    have : (i : Int) < t.l.length := by omega
    have hx := ih _ (getD_mem (d := default) (show i < t.l.length by omega))
    have hdx : depth (t.l.getD i default) ≤ depths t.l := depths_mem (getD_mem (by omega))
    rw [depth_eq] at hd
    simp (disch := first | omega | (simp only [EVL] <;> omega) | (simp only [hget_c, Nat.reduceEqDiff, ↓reduceIte]; done) | assumption | (simp (disch := omega) only [hg_ne, hg_eq, hgs_ne, *]; done) | (simp only [TL]; done) | with_unfolding_all rfl) only [unf b21_0.eq_1, c21, this, TL, hx, EVS, Nat.reduceAdd, Nat.reduceSub, Int.reduceToNat, Nat.reduceMul, Nat.reduceEqDiff, Nat.reduceLeDiff, Int.reduceEq, Int.reduceLT, Int.reduceLE, ↓reduceIte]
    have hq := ihk (i + 1) (max d (depth (t.l.getD i default))) (by omega) (by omega) (by omega)
    rw [depths_drop (by omega)]
    have e : max d ((max (depth (t.l.getD i default)) (depths (t.l.drop (i + 1))) : Nat) : Int) = max (max d (depth (t.l.getD i default))) (depths (t.l.drop (i + 1))) := by omega
    rw [e]
    exact Ok_inL (by decide) (by simp [lowTm, low, lows, TL]) (by simp [cutH, lowHeap, lowObj, lows, low, TL]) hq
theorem rDepth_spec (t : Te) (hl : size t ≤ 1000000) : ∀ h nx, lim T 21 [.agg [.int .u8 (t).k, .int .i64 (t).w, .int .u64 (t).b, .str (t).s, .int .i64 (t).lo, .lst (t).e ((t).l.map tV)]] h nx = some (.int .i64 (depth t), h, nx) := by
  induction t using Tm'.ind with
  | h t ih =>
  have hsz := sizes_len t.l
  have hds := depth_size t
  have hse := size_eq t
  refine lim_iso tg21 rfl rfl (by simp [pures, pure_, pu_Ts]) ?_
  simp (disch := first | omega | (simp only [EVL] <;> omega) | (simp only [hget_c, Nat.reduceEqDiff, ↓reduceIte]; done) | assumption | (simp (disch := omega) only [hg_ne, hg_eq, hgs_ne, *]; done) | (simp only [TL]; done) | with_unfolding_all rfl) only [c21, TL, EVS, Nat.reduceAdd, Nat.reduceSub, Int.reduceToNat, Nat.reduceMul, Nat.reduceEqDiff, Nat.reduceLeDiff, Int.reduceEq, Int.reduceLT, Int.reduceLE, ↓reduceIte]
  have := rDepth_loop t (fun x hx => ih x hx (by have := size_mem hx; omega)) (by omega) (by omega) t.l.length 0 0 (by omega) (by omega) (by omega)
  rw [depth_eq]
  rw [List.drop_zero, show max (0 : Int) (depths t.l) = depths t.l by omega] at this
  exact_mod_cast this
theorem count_loop (t : Te) (limit dp : Nat) (hl : limit ≤ 500) (hdp : dp ≤ 80) (hd1 : 1 ≤ dp) (hlen : t.l.length ≤ 9223372036854775807)
    (ih : ∀ x ∈ t.l, ∀ (limit dp : Nat), limit ≤ 500 → dp ≤ 80 → ∃ (n : Nat) (is : Bool), 1 ≤ n ∧ n ≤ limit + 1 ∧ (is = true → n ≤ limit → n = size x ∧ depth x ≤ dp) ∧ ∀ h nx, lim T 28 [.agg [.int .u8 (x).k, .int .i64 (x).w, .int .u64 (x).b, .str (x).s, .int .i64 (x).lo, .lst (x).e ((x).l.map tV)], .int .i64 limit, .int .i64 dp] h nx = some (.tup [.int .i64 n, .bool is], h, nx)) :
    ∀ (k i n : Nat), i + k = t.l.length → 1 ≤ n → n ≤ limit + 1 →
    @Ok Out (runs T [.code b28_0, .inL (some 7) b28_0, .inB 0, .code k28_1] [(1, .int .i64 limit), (2, .int .i64 dp), (3, .ptr 0 1 0 0), (8, .int .i64 n), (9, .int .i64 i)] [(0, .row 6 [.agg [.int .u8 (t).k, .int .i64 (t).w, .int .u64 (t).b, .str (t).s, .int .i64 (t).lo, .lst (t).e ((t).l.map tV)]])] 7)
      ⟨fun x => @Ok FV (resV c28.res x) ⟨fun v => ∃ (m : Nat) (is : Bool), v = .tup [.int .i64 m, .bool is] ∧ 1 ≤ m ∧ m ≤ limit + 1 ∧ (is = true → m ≤ limit → m = n + sizes (t.l.drop i) ∧ depths (t.l.drop i) + 1 ≤ dp)⟩⟩ := by
  intro k
  induction k with
  | zero =>
    intro i n hi h1 h2
    have : ¬ (i : Int) < t.l.length := by omega
    simp (disch := first | omega | (simp only [EVL] <;> omega) | (simp only [hget_c, Nat.reduceEqDiff, ↓reduceIte]; done) | assumption | (simp (disch := omega) only [hg_ne, hg_eq, hgs_ne, *]; done) | (simp only [TL]; done) | with_unfolding_all rfl) only [unf b28_0.eq_1, unf k28_1.eq_1, c28, this, TL, EVS, Nat.reduceAdd, Nat.reduceSub, Int.reduceToNat, Nat.reduceMul, Nat.reduceEqDiff, Nat.reduceLeDiff, Int.reduceEq, Int.reduceLT, Int.reduceLE, ↓reduceIte]
    exact ⟨n, true, rfl, h1, h2, fun _ _ => by rw [List.drop_eq_nil_of_le (by omega)]; exact ⟨rfl, by show 0 + 1 ≤ dp; omega⟩⟩
  | succ k ihk =>
    intro i n hi h1 h2
    have : (i : Int) < t.l.length := by omega
    by_cases hn : n ≤ limit
    · have hnl : (n : Int) ≤ limit := by omega
      obtain ⟨m, is, m1, m2, m3, hx⟩ := ih _ (getD_mem (d := default) (show i < t.l.length by omega)) (limit - n) (dp - 1) (by omega) (by omega)
      rw [show ((limit - n : Nat) : Int) = (limit : Int) - n by omega, show ((dp - 1 : Nat) : Int) = (dp : Int) - 1 by omega] at hx
      cases is with
      | true =>
        simp (disch := first | omega | (simp only [EVL] <;> omega) | (simp only [hget_c, Nat.reduceEqDiff, ↓reduceIte]; done) | assumption | (simp (disch := omega) only [hg_ne, hg_eq, hgs_ne, *]; done) | (simp only [TL]; done) | with_unfolding_all rfl) only [unf b28_0.eq_1, c28, this, hnl, TL, hx, EVS, Nat.reduceAdd, Nat.reduceSub, Int.reduceToNat, Nat.reduceMul, Nat.reduceEqDiff, Nat.reduceLeDiff, Int.reduceEq, Int.reduceLT, Int.reduceLE, ↓reduceIte]
        refine Ok_inL (by decide) (by simp [lowTm, low, lows, TL]) (by simp [cutH, lowHeap, lowObj, lows, low, TL]) (Ok_post (ihk (i + 1) (n + m) (by omega) (by omega) (by omega)) fun x v hv => ?_)
        obtain ⟨m', is', e, q1, q2, q3⟩ := hv
        refine ⟨m', is', e, q1, q2, fun e1 e2 => ?_⟩
        obtain ⟨r1, r2⟩ := q3 e1 e2
        have hm := m3 rfl (by omega)
        rw [sizes_drop (by omega), depths_drop (by omega)]
        omega
      | false =>
        simp (disch := first | omega | (simp only [EVL] <;> omega) | (simp only [hget_c, Nat.reduceEqDiff, ↓reduceIte]; done) | assumption | (simp (disch := omega) only [hg_ne, hg_eq, hgs_ne, *]; done) | (simp only [TL]; done) | with_unfolding_all rfl) only [unf b28_0.eq_1, c28, this, hnl, TL, hx, EVS, Nat.reduceAdd, Nat.reduceSub, Int.reduceToNat, Nat.reduceMul, Nat.reduceEqDiff, Nat.reduceLeDiff, Int.reduceEq, Int.reduceLT, Int.reduceLE, ↓reduceIte]
        exact ⟨n, false, rfl, h1, h2, fun e => by cases e⟩
    · have hnl : ¬ (n : Int) ≤ limit := by omega
      simp (disch := first | omega | (simp only [EVL] <;> omega) | (simp only [hget_c, Nat.reduceEqDiff, ↓reduceIte]; done) | assumption | (simp (disch := omega) only [hg_ne, hg_eq, hgs_ne, *]; done) | (simp only [TL]; done) | with_unfolding_all rfl) only [unf b28_0.eq_1, unf k28_1.eq_1, c28, this, hnl, TL, EVS, Nat.reduceAdd, Nat.reduceSub, Int.reduceToNat, Nat.reduceMul, Nat.reduceEqDiff, Nat.reduceLeDiff, Int.reduceEq, Int.reduceLT, Int.reduceLE, ↓reduceIte]
      exact ⟨n, true, rfl, h1, h2, fun _ e => absurd e hn⟩
theorem count_spec (t : Te) (ht : TOk t) : ∀ (limit dp : Nat), limit ≤ 500 → dp ≤ 80 → ∃ (n : Nat) (is : Bool), 1 ≤ n ∧ n ≤ limit + 1 ∧ (is = true → n ≤ limit → n = size t ∧ depth t ≤ dp) ∧ ∀ h nx, lim T 28 [.agg [.int .u8 (t).k, .int .i64 (t).w, .int .u64 (t).b, .str (t).s, .int .i64 (t).lo, .lst (t).e ((t).l.map tV)], .int .i64 limit, .int .i64 dp] h nx = some (.tup [.int .i64 n, .bool is], h, nx) := by
  induction t using Tm'.ind with
  | h t ih =>
  intro limit dp hl hdp
  have hlen : t.l.length ≤ 9223372036854775807 := ht.self.2.2.2.2.2
  obtain ⟨v, ⟨n, is, rfl, q1, q2, q3⟩, hh⟩ := lim_isoP (p := fun v => ∃ (m : Nat) (is : Bool), v = .tup [.int .i64 m, .bool is] ∧ 1 ≤ m ∧ m ≤ limit + 1 ∧ (is = true → m ≤ limit → m = size t ∧ depth t ≤ dp)) tg28 rfl (args := [.agg [.int .u8 (t).k, .int .i64 (t).w, .int .u64 (t).b, .str (t).s, .int .i64 (t).lo, .lst (t).e ((t).l.map tV)], .int .i64 limit, .int .i64 dp]) rfl (by simp [pures, pure_, pu_Ts]) (by
    by_cases hd : dp = 0
    · have hd' : (dp : Int) = 0 := by omega
      simp (disch := first | omega | (simp only [EVL] <;> omega) | (simp only [hget_c, Nat.reduceEqDiff, ↓reduceIte]; done) | assumption | (simp (disch := omega) only [hg_ne, hg_eq, hgs_ne, *]; done) | (simp only [TL]; done) | with_unfolding_all rfl) only [c28, TL, hd', EVS, Nat.reduceAdd, Nat.reduceSub, Int.reduceToNat, Nat.reduceMul, Nat.reduceEqDiff, Nat.reduceLeDiff, Int.reduceEq, Int.reduceLT, Int.reduceLE, ↓reduceIte]
      exact ⟨1, false, rfl, by omega, by omega, fun e => by cases e⟩
    · have hd' : ¬ (dp : Int) = 0 := by omega
      simp (disch := first | omega | (simp only [EVL] <;> omega) | (simp only [hget_c, Nat.reduceEqDiff, ↓reduceIte]; done) | assumption | (simp (disch := omega) only [hg_ne, hg_eq, hgs_ne, *]; done) | (simp only [TL]; done) | with_unfolding_all rfl) only [c28, TL, hd', EVS, Nat.reduceAdd, Nat.reduceSub, Int.reduceToNat, Nat.reduceMul, Nat.reduceEqDiff, Nat.reduceLeDiff, Int.reduceEq, Int.reduceLT, Int.reduceLE, ↓reduceIte]
      refine Ok_post (count_loop t limit dp hl hdp (by omega) hlen (fun x hx => ih x hx (ht.sub hx)) t.l.length 0 1 (by omega) (by omega) (by omega)) fun x v hv => ?_
      rw [List.drop_zero] at hv
      rw [size_eq, depth_eq]; exact hv)
  exact ⟨n, is, q1, q2, q3, hh⟩
theorem long_loop (t : Te) (hlen : t.l.length ≤ 9223372036854775807)
    (ih : ∀ x ∈ t.l, ∃ b : Bool, (b = false → ∀ y ∈ nodesT x, y.s.length ≤ 200) ∧ ∀ h nx, lim T 29 [.agg [.int .u8 (x).k, .int .i64 (x).w, .int .u64 (x).b, .str (x).s, .int .i64 (x).lo, .lst (x).e ((x).l.map tV)]] h nx = some (.bool b, h, nx)) :
    ∀ (k i : Nat), i + k = t.l.length → (∀ j, j < i → ∀ y ∈ nodesT (t.l.getD j default), y.s.length ≤ 200) →
    @Ok Out (runs T [.code b29_0, .inL (some 3) b29_0, .inB 0, .code k29_1] [(1, .ptr 0 1 0 0), (3, .int .i64 i)] [(0, .row 6 [.agg [.int .u8 (t).k, .int .i64 (t).w, .int .u64 (t).b, .str (t).s, .int .i64 (t).lo, .lst (t).e ((t).l.map tV)]])] 3)
      ⟨fun x => @Ok FV (resV c29.res x) ⟨fun v => ∃ b : Bool, v = .bool b ∧ (b = false → ∀ y ∈ nodesT t, y.s.length ≤ 200)⟩⟩ := by
  intro k
  induction k with
  | zero =>
    intro i hi hok
    have : ¬ (i : Int) < t.l.length := by omega
    simp (disch := first | omega | (simp only [EVL] <;> omega) | (simp only [hget_c, Nat.reduceEqDiff, ↓reduceIte]; done) | assumption | (simp (disch := omega) only [hg_ne, hg_eq, hgs_ne, *]; done) | (simp only [TL]; done) | with_unfolding_all rfl) only [unf b29_0.eq_1, unf k29_1.eq_1, c29, this, TL, EVS, Nat.reduceAdd, Nat.reduceSub, Int.reduceToNat, Nat.reduceMul, Nat.reduceEqDiff, Nat.reduceLeDiff, Int.reduceEq, Int.reduceLT, Int.reduceLE, ↓reduceIte]
    refine ⟨_, rfl, fun e => ?_⟩
    have e := of_decide_eq_false e
    refine all_nodes.2 ⟨by omega, fun x hx => ?_⟩
    obtain ⟨j, hj, rfl⟩ := List.mem_iff_getElem.1 hx
    have := hok j (by omega)
    simpa [List.getD, hj] using this
  | succ k ihk =>
    intro i hi hok
    have : (i : Int) < t.l.length := by omega
    obtain ⟨b, hb, hx⟩ := ih _ (getD_mem (d := default) (show i < t.l.length by omega))
    cases b with
    | true =>
      simp (disch := first | omega | (simp only [EVL] <;> omega) | (simp only [hget_c, Nat.reduceEqDiff, ↓reduceIte]; done) | assumption | (simp (disch := omega) only [hg_ne, hg_eq, hgs_ne, *]; done) | (simp only [TL]; done) | with_unfolding_all rfl) only [unf b29_0.eq_1, c29, this, TL, hx, EVS, Nat.reduceAdd, Nat.reduceSub, Int.reduceToNat, Nat.reduceMul, Nat.reduceEqDiff, Nat.reduceLeDiff, Int.reduceEq, Int.reduceLT, Int.reduceLE, ↓reduceIte]
      exact ⟨true, rfl, fun e => by cases e⟩
    | false =>
      simp (disch := first | omega | (simp only [EVL] <;> omega) | (simp only [hget_c, Nat.reduceEqDiff, ↓reduceIte]; done) | assumption | (simp (disch := omega) only [hg_ne, hg_eq, hgs_ne, *]; done) | (simp only [TL]; done) | with_unfolding_all rfl) only [unf b29_0.eq_1, c29, this, TL, hx, EVS, Nat.reduceAdd, Nat.reduceSub, Int.reduceToNat, Nat.reduceMul, Nat.reduceEqDiff, Nat.reduceLeDiff, Int.reduceEq, Int.reduceLT, Int.reduceLE, ↓reduceIte]
      exact Ok_inL (by decide) (by simp [lowTm, low, lows, TL]) (by simp [cutH, lowHeap, lowObj, lows, low, TL]) (ihk (i + 1) (by omega) (fun j hj => by
        by_cases e : j = i
        · subst e; exact hb rfl
        · exact hok j (by omega)))
theorem long_spec (t : Te) (ht : TOk t) : ∃ b : Bool, (b = false → ∀ y ∈ nodesT t, y.s.length ≤ 200) ∧ ∀ h nx, lim T 29 [.agg [.int .u8 (t).k, .int .i64 (t).w, .int .u64 (t).b, .str (t).s, .int .i64 (t).lo, .lst (t).e ((t).l.map tV)]] h nx = some (.bool b, h, nx) := by
  induction t using Tm'.ind with
  | h t ih =>
  have hlen : t.l.length ≤ 9223372036854775807 := ht.self.2.2.2.2.2
  have hsl : t.s.length ≤ 9223372036854775807 := ht.self.2.2.2.1
  obtain ⟨v, ⟨b, rfl, hb⟩, hh⟩ := lim_isoP (p := fun v => ∃ b : Bool, v = .bool b ∧ (b = false → ∀ y ∈ nodesT t, y.s.length ≤ 200)) tg29 rfl (args := [.agg [.int .u8 (t).k, .int .i64 (t).w, .int .u64 (t).b, .str (t).s, .int .i64 (t).lo, .lst (t).e ((t).l.map tV)]]) rfl (by simp [pures, pure_, pu_Ts]) (by
    simp (disch := first | omega | (simp only [EVL] <;> omega) | (simp only [hget_c, Nat.reduceEqDiff, ↓reduceIte]; done) | assumption | (simp (disch := omega) only [hg_ne, hg_eq, hgs_ne, *]; done) | (simp only [TL]; done) | with_unfolding_all rfl) only [c29, TL, EVS, Nat.reduceAdd, Nat.reduceSub, Int.reduceToNat, Nat.reduceMul, Nat.reduceEqDiff, Nat.reduceLeDiff, Int.reduceEq, Int.reduceLT, Int.reduceLE, ↓reduceIte]
    exact long_loop t hlen (fun x hx => ih x hx (ht.sub hx)) t.l.length 0 (by omega) (fun j hj => by omega))
  exact ⟨b, hb, hh⟩
def SmallT (t : Te) : Prop := size t ≤ 500 ∧ depth t ≤ 80 ∧ ∀ y ∈ nodesT t, y.s.length ≤ 200
theorem great_spec (t : Te) (ht : TOk t) : ∃ b : Bool, (b = false → SmallT t) ∧ ∀ h nx, lim T 6 [.agg [.int .u8 (t).k, .int .i64 (t).w, .int .u64 (t).b, .str (t).s, .int .i64 (t).lo, .lst (t).e ((t).l.map tV)]] h nx = some (.bool b, h, nx) := by
  obtain ⟨n, is, n1, n2, n3, hc⟩ := count_spec t ht 500 80 (by omega) (by omega)
  obtain ⟨b, hb, hlg⟩ := long_spec t ht
  simp only [Int.cast_ofNat_Int] at hc
  obtain ⟨v, ⟨b, rfl, hb⟩, hh⟩ := lim_isoP (p := fun v => ∃ b : Bool, v = .bool b ∧ (b = false → SmallT t)) tg6 rfl (args := [.agg [.int .u8 (t).k, .int .i64 (t).w, .int .u64 (t).b, .str (t).s, .int .i64 (t).lo, .lst (t).e ((t).l.map tV)]]) rfl (by simp [pures, pure_, pu_Ts]) (by
    cases is with
    | false =>
      simp (disch := first | omega | (simp only [EVL] <;> omega) | (simp only [hget_c, Nat.reduceEqDiff, ↓reduceIte]; done) | assumption | (simp (disch := omega) only [hg_ne, hg_eq, hgs_ne, *]; done) | (simp only [TL]; done) | with_unfolding_all rfl) only [c6, TL, hc, EVS, Nat.reduceAdd, Nat.reduceSub, Int.reduceToNat, Nat.reduceMul, Nat.reduceEqDiff, Nat.reduceLeDiff, Int.reduceEq, Int.reduceLT, Int.reduceLE, ↓reduceIte]
      exact ⟨true, rfl, fun e => by cases e⟩
    | true =>
      by_cases hn : (500 : Int) < n
      · simp (disch := first | omega | (simp only [EVL] <;> omega) | (simp only [hget_c, Nat.reduceEqDiff, ↓reduceIte]; done) | assumption | (simp (disch := omega) only [hg_ne, hg_eq, hgs_ne, *]; done) | (simp only [TL]; done) | with_unfolding_all rfl) only [c6, TL, hc, hn, EVS, Nat.reduceAdd, Nat.reduceSub, Int.reduceToNat, Nat.reduceMul, Nat.reduceEqDiff, Nat.reduceLeDiff, Int.reduceEq, Int.reduceLT, Int.reduceLE, ↓reduceIte]
        exact ⟨true, rfl, fun e => by cases e⟩
      · have hq := n3 rfl (by omega)
        simp (disch := first | omega | (simp only [EVL] <;> omega) | (simp only [hget_c, Nat.reduceEqDiff, ↓reduceIte]; done) | assumption | (simp (disch := omega) only [hg_ne, hg_eq, hgs_ne, *]; done) | (simp only [TL]; done) | with_unfolding_all rfl) only [c6, TL, hc, hn, hlg, EVS, Nat.reduceAdd, Nat.reduceSub, Int.reduceToNat, Nat.reduceMul, Nat.reduceEqDiff, Nat.reduceLeDiff, Int.reduceEq, Int.reduceLT, Int.reduceLE, ↓reduceIte]
        exact ⟨b, rfl, fun e => ⟨by omega, hq.2, hb e⟩⟩)
  exact ⟨b, hb, hh⟩

def bd0 (p : List UInt8 × Int) : FV := .agg [.str p.1, .int .i64 p.2, .int .u64 0]
theorem pu_b0 (l : Env0) : pures (l.map bd0) = true := pures_map (fun _ => rfl) _
theorem lo_b0 (b : Nat) (l : Env0) : lows b (l.map bd0) = true := lows_map (fun _ => rfl) _
theorem al_b0 (l : Env0) : (l.map bd0).all FV.ok = true := all_map (fun _ => rfl) _
theorem cl_b0 (l : Env0) : ((l.map bd0).all fun v => v.cells.length == 3) = true := all_map (fun _ => rfl) _
theorem gd_b0 {l : Env0} {i : Nat} {d : FV} (h : i < l.length) : (l.map bd0).getD i d = .agg [.str (l.getD i ([], 0)).1, .int .i64 (l.getD i ([], 0)).2, .int .u64 0] := getD_map _ h
theorem LAWSb : type_of% (And.intro pu_Ts <| And.intro lo_Ts <| And.intro al_Ts <| And.intro cl_Ts <| And.intro @gd_T <| And.intro @ge_T <| And.intro pu_b0 <| And.intro lo_b0 <| And.intro al_b0 <| And.intro cl_b0 @gd_b0) := And.intro pu_Ts <| And.intro lo_Ts <| And.intro al_Ts <| And.intro cl_Ts <| And.intro @gd_T <| And.intro @ge_T <| And.intro pu_b0 <| And.intro lo_b0 <| And.intro al_b0 <| And.intro cl_b0 @gd_b0
theorem same_lim (a b : FV) (h : Heap) (nx : Nat) : lim T 10 [a, b] h nx = @FI.B (List FV) (FV × Heap × Nat) (frzs h deep [a, b]) ⟨fun q => isfR T c10 q h nx⟩ := lim_isf tg10 rfl rfl
theorem same_pure' {a b : Te} {r : Bool} (hs : ∀ h nx, isfR T c10 [.agg [.int .u8 (a).k, .int .i64 (a).w, .int .u64 (a).b, .str (a).s, .int .i64 (a).lo, .lst (a).e ((a).l.map tV)], .agg [.int .u8 (b).k, .int .i64 (b).w, .int .u64 (b).b, .str (b).s, .int .i64 (b).lo, .lst (b).e ((b).l.map tV)]] h nx = some (.bool r, h, nx)) : ∀ h nx, lim T 10 [.agg [.int .u8 (a).k, .int .i64 (a).w, .int .u64 (a).b, .str (a).s, .int .i64 (a).lo, .lst (a).e ((a).l.map tV)], .agg [.int .u8 (b).k, .int .i64 (b).w, .int .u64 (b).b, .str (b).s, .int .i64 (b).lo, .lst (b).e ((b).l.map tV)]] h nx = some (.bool r, h, nx) := by
  intro h nx
  rw [same_lim, frzs_pure (by simp [pures, pure_, pu_Ts]) (show (2 : Nat) ≤ deep by decide), B_some]
  exact hs h nx
theorem same_loop (a b : Te) (hl : a.l.length = b.l.length) (hb : a.l.length ≤ 1000000) (ih : ∀ x ∈ a.l, ∀ y ∈ b.l, ∀ h nx, lim T 10 [.agg [.int .u8 (x).k, .int .i64 (x).w, .int .u64 (x).b, .str (x).s, .int .i64 (x).lo, .lst (x).e ((x).l.map tV)], .agg [.int .u8 (y).k, .int .i64 (y).w, .int .u64 (y).b, .str (y).s, .int .i64 (y).lo, .lst (y).e ((y).l.map tV)]] h nx = some (.bool (sameT x y), h, nx)) : ∀ (k i : Nat), i + k = a.l.length →
    @Ok Out (runs T [.code b10_0, .inL (some 46) b10_0, .inB 0, .code k10_1] [(2, .ptr 0 1 0 0), (3, .ptr 1 1 0 0), (5, .int .i64 i)] [(1, .row 6 [.agg [.int .u8 (b).k, .int .i64 (b).w, .int .u64 (b).b, .str (b).s, .int .i64 (b).lo, .lst (b).e ((b).l.map tV)]]), (0, .row 6 [.agg [.int .u8 (a).k, .int .i64 (a).w, .int .u64 (a).b, .str (a).s, .int .i64 (a).lo, .lst (a).e ((a).l.map tV)]])] 46) ⟨fun x => finV c10.res x = some (.bool (sameL (a.l.drop i) (b.l.drop i)))⟩ := by
  intro k
  induction k with
  | zero =>
    intro i hi
    have : ¬ (i : Int) < a.l.length := by omega
    simp (disch := first | omega | (simp only [EVL] <;> omega) | (simp only [hget_c, Nat.reduceEqDiff, ↓reduceIte]; done) | assumption | (simp (disch := omega) only [hg_ne, hg_eq, hgs_ne, *]; done) | (simp only [LAWSb]; done) | with_unfolding_all rfl) only [unf b10_0.eq_1, unf k10_1.eq_1, c10, this, LAWSb, EVS, Nat.reduceAdd, Nat.reduceSub, Int.reduceToNat, Nat.reduceMul, Nat.reduceEqDiff, Nat.reduceLeDiff, Int.reduceEq, Int.reduceLT, Int.reduceLE, ↓reduceIte]
    rw [List.drop_eq_nil_of_le (by omega), List.drop_eq_nil_of_le (by omega)]; rfl
  | succ k ihk =>
    intro i hi
    have : (i : Int) < a.l.length := by omega
    have hx := ih _ (getD_mem (d := default) (show i < a.l.length by omega)) _ (getD_mem (d := default) (show i < b.l.length by omega))
    rw [sameL_drop (by omega) (by omega)]
    cases hs : sameT (a.l.getD i default) (b.l.getD i default) with
    | true =>
      rw [hs] at hx
      simp (disch := first | omega | (simp only [EVL] <;> omega) | (simp only [hget_c, Nat.reduceEqDiff, ↓reduceIte]; done) | assumption | (simp (disch := omega) only [hg_ne, hg_eq, hgs_ne, *]; done) | (simp only [LAWSb]; done) | with_unfolding_all rfl) only [unf b10_0.eq_1, c10, this, LAWSb, hx, EVS, Nat.reduceAdd, Nat.reduceSub, Int.reduceToNat, Nat.reduceMul, Nat.reduceEqDiff, Nat.reduceLeDiff, Int.reduceEq, Int.reduceLT, Int.reduceLE, ↓reduceIte]
      rw [Bool.true_and]
      exact Ok_inL (by decide) (by simp [lowTm, low, lows, LAWSb]) (by simp [cutH, lowHeap, lowObj, lows, low, LAWSb]) (ihk (i + 1) (by omega))
    | false =>
      rw [hs] at hx
      simp (disch := first | omega | (simp only [EVL] <;> omega) | (simp only [hget_c, Nat.reduceEqDiff, ↓reduceIte]; done) | assumption | (simp (disch := omega) only [hg_ne, hg_eq, hgs_ne, *]; done) | (simp only [LAWSb]; done) | with_unfolding_all rfl) only [unf b10_0.eq_1, c10, this, LAWSb, hx, EVS, Nat.reduceAdd, Nat.reduceSub, Int.reduceToNat, Nat.reduceMul, Nat.reduceEqDiff, Nat.reduceLeDiff, Int.reduceEq, Int.reduceLT, Int.reduceLE, ↓reduceIte]
      rfl
theorem same_spec (a : Te) : ∀ (b : Te), size a ≤ 1000000 → size b ≤ 1000000 → ∀ h nx, isfR T c10 [.agg [.int .u8 (a).k, .int .i64 (a).w, .int .u64 (a).b, .str (a).s, .int .i64 (a).lo, .lst (a).e ((a).l.map tV)], .agg [.int .u8 (b).k, .int .i64 (b).w, .int .u64 (b).b, .str (b).s, .int .i64 (b).lo, .lst (b).e ((b).l.map tV)]] h nx = some (.bool (sameT a b), h, nx) := by
  induction a using Tm'.ind with
  | h a ih =>
  intro b ha hb h nx
  refine isfR_of rfl ?_
  have hsa := sizes_len a.l
  have hsb := sizes_len b.l
  have hse := size_eq a
  have hsf := size_eq b
  rw [sameT_eq]
  simp (disch := first | omega | (simp only [EVL] <;> omega) | (simp only [hget_c, Nat.reduceEqDiff, ↓reduceIte]; done) | assumption | (simp (disch := omega) only [hg_ne, hg_eq, hgs_ne, *]; done) | (simp only [LAWSb]; done) | with_unfolding_all rfl) only [c10, LAWSb, EVS, Nat.reduceAdd, Nat.reduceSub, Int.reduceToNat, Nat.reduceMul, Nat.reduceEqDiff, Nat.reduceLeDiff, Int.reduceEq, Int.reduceLT, Int.reduceLE, ↓reduceIte]
  repeat' (refine Ok_if (fun hb => ?_) (fun hb => ?_) <;> have h := hb <;> (try simp only [decide_eq_true_eq, decide_eq_false_iff_not, Int.not_lt, Int.not_le] at h) <;> (simp (disch := first | omega | (simp only [EVL] <;> omega) | (simp only [hget_c, Nat.reduceEqDiff, ↓reduceIte]; done) | assumption | (simp (disch := omega) only [hg_ne, hg_eq, hgs_ne, *]; done) | (simp only [LAWSb]; done) | with_unfolding_all rfl) only [hb, c10, LAWSb, EVS, Nat.reduceAdd, Nat.reduceSub, Int.reduceToNat, Nat.reduceMul, Nat.reduceEqDiff, Nat.reduceLeDiff, Int.reduceEq, Int.reduceLT, Int.reduceLE, ↓reduceIte]) <;> (try clear hb))
  · have hl := same_loop a b (by omega) (by omega) (fun x hx y hy => same_pure' (ih x hx y (by have := size_mem hx; omega) (by have := size_mem hy; omega))) a.l.length 0 (by omega)
    rw [List.drop_zero, List.drop_zero] at hl
    rename_i e1 e2 e3 e4 e5
    rw [decide_eq_true e1, decide_eq_true e2, decide_eq_true e3, e4, decide_eq_true e5]
    exact hl
  · have : sameL a.l b.l = false := by
      cases hh : sameL a.l b.l with
      | false => rfl
      | true => have := sameL_len hh; omega
    simp [this]
  · simp [h]
  · simp [h]
  · simp [h]
  · simp [h]
  · simp [h]
theorem same_pure (a b : Te) (ha : size a ≤ 1000000) (hb : size b ≤ 1000000) : ∀ h nx, lim T 10 [.agg [.int .u8 (a).k, .int .i64 (a).w, .int .u64 (a).b, .str (a).s, .int .i64 (a).lo, .lst (a).e ((a).l.map tV)], .agg [.int .u8 (b).k, .int .i64 (b).w, .int .u64 (b).b, .str (b).s, .int .i64 (b).lo, .lst (b).e ((b).l.map tV)]] h nx = some (.bool (sameT a b), h, nx) := same_pure' (same_spec a b ha hb)
theorem nodesOk_iff (t : Te) : nodesOk t ↔ nodeS t ∧ ∀ x ∈ t.l, nodesOk x := all_nodes
theorem nodesOk_wide {t : Te} (h : nodesOk t) : 1 ≤ t.w ∧ t.w ≤ 64 := (h t (mem_nodes t)).1
theorem allW1 {l : List Te} {w : Int} (h : l.length = 1) : allW l w ↔ (l.getD 0 default).w = w :=
  ⟨fun hh => hh 0 (by omega), fun hh j hj => by rw [show j = 0 by omega]; exact hh⟩
theorem allW2 {l : List Te} {w : Int} (h : l.length = 2) : allW l w ↔ (l.getD 0 default).w = w ∧ (l.getD 1 default).w = w :=
  ⟨fun hh => ⟨hh 0 (by omega), hh 1 (by omega)⟩, fun hh j hj => by
    rcases (by omega : j = 0 ∨ j = 1) with rfl | rfl
    · exact hh.1
    · exact hh.2⟩
theorem node_k34 {t : Te} (h : t.k = 3 ∨ t.k = 4) : nodeS t ↔ wideS t.w ∧ t.b = 0 ∧ t.s = [] ∧ t.lo = 0 ∧ t.l.length = 1 ∧ subW t 0 = t.w := by
  have e1 : howS t.k = 1 := by unfold howS; (repeat' split) <;> omega
  have e2 : partsS t.k = 1 := by unfold partsS; (repeat' split) <;> omega
  have e3 : ((t.l.length : Int) = 1) ↔ t.l.length = 1 := by omega
  unfold nodeS
  rw [if_pos (by omega), e1, e2, e3]
  simp only [widthsS, Int.reduceEq, ↓reduceIte, or_false, or_true, true_and]
  exact ⟨fun ⟨a, b, c, d, e, f⟩ => ⟨a, b, c, d, e, (allW1 e).1 f⟩, fun ⟨a, b, c, d, e, f⟩ => ⟨a, b, c, d, e, (allW1 e).2 f⟩⟩
theorem node_k5 {t : Te} (h : 5 ≤ t.k ∧ t.k ≤ 15) : nodeS t ↔ wideS t.w ∧ t.b = 0 ∧ t.s = [] ∧ t.lo = 0 ∧ t.l.length = 2 ∧ subW t 0 = t.w ∧ subW t 1 = t.w := by
  have e1 : howS t.k = 1 := by unfold howS; (repeat' split) <;> omega
  have e2 : partsS t.k = 2 := by unfold partsS; (repeat' split) <;> omega
  have e3 : ((t.l.length : Int) = 2) ↔ t.l.length = 2 := by omega
  unfold nodeS
  rw [if_pos (by omega), e1, e2, e3]
  simp only [widthsS, Int.reduceEq, ↓reduceIte, or_false, or_true, true_and]
  exact ⟨fun ⟨a, b, c, d, e, f⟩ => ⟨a, b, c, d, e, (allW2 e).1 f⟩, fun ⟨a, b, c, d, e, f⟩ => ⟨a, b, c, d, e, (allW2 e).2 f⟩⟩
theorem node_k16 {t : Te} (h : 16 ≤ t.k ∧ t.k ≤ 18) : nodeS t ↔ wideS t.w ∧ t.b = 0 ∧ t.s = [] ∧ t.lo = 0 ∧ t.l.length = 2 ∧ t.w = 1 ∧ subW t 1 = subW t 0 := by
  have e1 : howS t.k = 2 := by unfold howS; (repeat' split) <;> omega
  have e2 : partsS t.k = 2 := by unfold partsS; (repeat' split) <;> omega
  have e3 : ((t.l.length : Int) = 2) ↔ t.l.length = 2 := by omega
  unfold nodeS
  rw [if_pos (by omega), e1, e2, e3]
  simp only [widthsS, Int.reduceEq, ↓reduceIte, or_false, or_true, true_and]
theorem node_k19 {t : Te} (h : t.k = 19) : nodeS t ↔ wideS t.w ∧ t.b = 0 ∧ t.s = [] ∧ t.lo = 0 ∧ t.l.length = 3 ∧ subW t 0 = 1 ∧ subW t 1 = t.w ∧ subW t 2 = t.w := by
  have e1 : howS t.k = 3 := by unfold howS; (repeat' split) <;> omega
  have e2 : partsS t.k = 3 := by unfold partsS; (repeat' split) <;> omega
  have e3 : ((t.l.length : Int) = 3) ↔ t.l.length = 3 := by omega
  unfold nodeS
  rw [if_pos (by omega), e1, e2, e3]
  simp only [widthsS, Int.reduceEq, ↓reduceIte, or_false, or_true, true_and]
theorem node_k20 {t : Te} (h : t.k = 20) : nodeS t ↔ wideS t.w ∧ t.b = 0 ∧ t.s = [] ∧ t.lo = 0 ∧ t.l.length = 2 ∧ wideS (subW t 0) ∧ wideS (subW t 1) ∧ subW t 0 + subW t 1 = t.w := by
  have e1 : howS t.k = 4 := by unfold howS; (repeat' split) <;> omega
  have e2 : partsS t.k = 2 := by unfold partsS; (repeat' split) <;> omega
  have e3 : ((t.l.length : Int) = 2) ↔ t.l.length = 2 := by omega
  unfold nodeS
  rw [if_pos (by omega), e1, e2, e3]
  simp only [widthsS, Int.reduceEq, ↓reduceIte, or_false, or_true, true_and]
theorem node_k21 {t : Te} (h : t.k = 21) : nodeS t ↔ wideS t.w ∧ t.b = 0 ∧ t.s = [] ∧ True ∧ t.l.length = 1 ∧ 0 ≤ t.lo ∧ wideS (subW t 0) ∧ t.w ≤ subW t 0 ∧ t.lo ≤ subW t 0 - t.w := by
  have e1 : howS t.k = 5 := by unfold howS; (repeat' split) <;> omega
  have e2 : partsS t.k = 1 := by unfold partsS; (repeat' split) <;> omega
  have e3 : ((t.l.length : Int) = 1) ↔ t.l.length = 1 := by omega
  unfold nodeS
  rw [if_pos (by omega), e1, e2, e3]
  simp only [widthsS, Int.reduceEq, ↓reduceIte, or_false, or_true, true_and]
theorem node_k22 {t : Te} (h : t.k = 22 ∨ t.k = 23) : nodeS t ↔ wideS t.w ∧ t.b = 0 ∧ t.s = [] ∧ t.lo = 0 ∧ t.l.length = 1 ∧ subW t 0 ≤ t.w := by
  have e1 : howS t.k = 6 := by unfold howS; (repeat' split) <;> omega
  have e2 : partsS t.k = 1 := by unfold partsS; (repeat' split) <;> omega
  have e3 : ((t.l.length : Int) = 1) ↔ t.l.length = 1 := by omega
  unfold nodeS
  rw [if_pos (by omega), e1, e2, e3]
  simp only [widthsS, Int.reduceEq, ↓reduceIte, or_false, or_true, true_and]
theorem node_k24 {t : Te} (h : t.k = 24) : nodeS t ↔ wideS t.w ∧ t.b = 0 ∧ t.s = [] ∧ t.lo = 0 ∧ t.l.length = 1 ∧ loadsS t.w := by
  have e1 : howS t.k = 7 := by unfold howS; (repeat' split) <;> omega
  have e2 : partsS t.k = 1 := by unfold partsS; (repeat' split) <;> omega
  have e3 : ((t.l.length : Int) = 1) ↔ t.l.length = 1 := by omega
  unfold nodeS
  rw [if_pos (by omega), e1, e2, e3]
  simp only [widthsS, Int.reduceEq, ↓reduceIte, or_false, or_true, true_and]
theorem node_k1 {t : Te} (h : t.k = 1) : nodeS t ↔ wideS t.w ∧ t.l.length = 0 ∧ t.lo = 0 ∧ t.s = [] ∧ okS t.w t.b := by
  unfold nodeS
  rw [if_neg (by omega)]
  simp only [h, Int.reduceEq, true_and, false_and, or_false]
theorem node_k2 {t : Te} (h : t.k = 2) : nodeS t ↔ wideS t.w ∧ t.l.length = 0 ∧ t.lo = 0 ∧ t.b = 0 ∧ nameS (strip t.s) := by
  unfold nodeS
  rw [if_neg (by omega)]
  simp only [h, Int.reduceEq, true_and, false_and, false_or]
theorem node_no {t : Te} (h : t.k < 1 ∨ 24 < t.k) : ¬ nodeS t := by
  unfold nodeS
  rw [if_neg (by omega)]
  rintro ⟨_, _, _, ⟨h1, _⟩ | ⟨h1, _⟩⟩ <;> omega
theorem node_need {t : Te} (h : nodeS t) : (1 ≤ t.w ∧ t.w ≤ 64) ∧ (3 ≤ t.k → t.k ≤ 24 ∧ t.b = 0 ∧ t.s = [] ∧ (t.lo = 0 ∨ t.k = 21) ∧ 0 < t.l.length) := by
  refine ⟨h.1, fun h3 => ?_⟩
  have h24 : t.k ≤ 24 := by
    rcases Int.lt_or_le 24 t.k with h' | h'
    · exact absurd h (node_no (.inr h'))
    · exact h'
  have h2 := h.2
  rw [if_pos ⟨h3, h24⟩] at h2
  obtain ⟨a, b, c, d, _⟩ := h2
  have hp := (parts_pos t.k).2 ⟨h3, h24⟩
  have hh : howS t.k = 5 → t.k = 21 := by unfold howS; (repeat' split) <;> omega
  exact ⟨h24, a, b, c.imp id hh, by omega⟩
set_option maxHeartbeats 1000000 in
open Classical in
theorem formed_end (t : Te) (ht : nodeT t) (hs : ∀ x ∈ t.l, nodesOk x) (hl : t.l.length ≤ 1000000) (i : Int) :
    @Ok Out (runs T [.code k40_1] [(1, .ptr 0 1 0 0), (3, .int .i64 i), (11, .bool false)] [(0, .row 6 [.agg [.int .u8 (t).k, .int .i64 (t).w, .int .u64 (t).b, .str (t).s, .int .i64 (t).lo, .lst (t).e ((t).l.map tV)]])] 8) ⟨fun x => resV c40.res x = some (.bool (decide (nodeS t)))⟩ := by
  obtain ⟨⟨k1, k2⟩, ⟨w1, w2⟩, ⟨b1, b2⟩, _, ⟨l1, l2⟩, _⟩ := ht
  have hok := rOk_spec t.w t.b b2
  have hsub : ∀ i, i < t.l.length → 1 ≤ subW t i ∧ subW t i ≤ 64 := fun i hi => nodesOk_wide (hs _ (getD_mem hi))
  have s0 : 0 < t.l.length → 1 ≤ (t.l.getD 0 default).w ∧ (t.l.getD 0 default).w ≤ 64 := hsub 0
  have s1 : 1 < t.l.length → 1 ≤ (t.l.getD 1 default).w ∧ (t.l.getD 1 default).w ≤ 64 := hsub 1
  simp (disch := first | omega | (simp only [EVL] <;> omega) | (simp only [hget_c, Nat.reduceEqDiff, ↓reduceIte]; done) | assumption | (simp (disch := omega) only [hg_ne, hg_eq, hgs_ne, *]; done) | (simp only [LAWSb]; done) | with_unfolding_all rfl) only [unf k40_1.eq_1, c40, LAWSb, rWide_spec, EVS, Nat.reduceAdd, Nat.reduceSub, Int.reduceToNat, Nat.reduceMul, Nat.reduceEqDiff, Nat.reduceLeDiff, Int.reduceEq, Int.reduceLT, Int.reduceLE, ↓reduceIte]
  repeat' (refine Ok_if (fun hb => ?_) (fun hb => ?_) <;> have h := hb <;> (try simp only [decide_eq_true_eq, decide_eq_false_iff_not, Int.not_lt, Int.not_le] at h) <;> (simp (disch := first | omega | (simp only [EVL] <;> omega) | (simp only [hget_c, Nat.reduceEqDiff, ↓reduceIte]; done) | assumption | (simp (disch := omega) only [hg_ne, hg_eq, hgs_ne, *]; done) | (simp only [LAWSb]; done) | with_unfolding_all rfl) only [hb, c40, LAWSb, hok, rVariable_spec, rLoads_spec, EVS, Nat.reduceAdd, Nat.reduceSub, Int.reduceToNat, Nat.reduceMul, Nat.reduceEqDiff, Nat.reduceLeDiff, Int.reduceEq, Int.reduceLT, Int.reduceLE, ↓reduceIte]) <;> (try clear hb))
  all_goals (first | refine decide_eq_decide.2 ?_ | refine (decide_eq_true ?_).symm | refine (decide_eq_false ?_).symm)
  all_goals (first | rw [node_k1 (by assumption)] | rw [node_k2 (by assumption)] | rw [node_k34 (by omega)] | rw [node_k5 (by omega)] | rw [node_k16 (by omega)] | rw [node_k19 (by omega)] | rw [node_k20 (by omega)] | rw [node_k21 (by omega)] | rw [node_k22 (by omega)] | rw [node_k24 (by omega)] | skip)
  all_goals (try unfold wideS)
  all_goals (try unfold subW)
  all_goals first | (exfalso; omega) | (exact node_no (by omega)) | (simp_all; done) | (simp_all; omega) | (have hS : t.s = [] := eq_of_beq (by assumption); simp only [hS, true_and]; omega) | (intro hn; have hq := node_need hn; have hS := (hq.2 (by omega)).2.2.1; simp only [hS, true_and] at *; first | omega | (simp_all; done)) | (intro hn; have hq := node_need hn; omega)

open Classical in
theorem formed_loop (t : Te) (ht : TOk t) (hl : t.l.length ≤ 1000000) (ih : ∀ x ∈ t.l, ∀ h nx, lim T 40 [.agg [.int .u8 (x).k, .int .i64 (x).w, .int .u64 (x).b, .str (x).s, .int .i64 (x).lo, .lst (x).e ((x).l.map tV)]] h nx = some (.bool (decide (nodesOk x)), h, nx)) : ∀ (k i : Nat), i + k = t.l.length → (∀ j, j < i → nodesOk (t.l.getD j default)) →
    @Ok Out (runs T [.code b40_0, .inL (some 3) b40_0, .inB 0, .code k40_1] [(1, .ptr 0 1 0 0), (3, .int .i64 i)] [(0, .row 6 [.agg [.int .u8 (t).k, .int .i64 (t).w, .int .u64 (t).b, .str (t).s, .int .i64 (t).lo, .lst (t).e ((t).l.map tV)]])] 3) ⟨fun x => resV c40.res x = some (.bool (decide (nodesOk t)))⟩ := by
  intro k
  induction k with
  | zero =>
    intro i hi hok
    have : ¬ (i : Int) < t.l.length := by omega
    have hall : ∀ x ∈ t.l, nodesOk x := fun x hx => by
      obtain ⟨j, hj, rfl⟩ := List.mem_iff_getElem.1 hx
      have := hok j (by omega)
      simpa [List.getD, hj] using this
    have hd : decide (nodesOk t) = decide (nodeS t) := decide_eq_decide.2 ((nodesOk_iff t).trans ⟨fun h => h.1, fun h => ⟨h, hall⟩⟩)
    rw [hd]
    simp (disch := first | omega | (simp only [EVL] <;> omega) | (simp only [hget_c, Nat.reduceEqDiff, ↓reduceIte]; done) | assumption | (simp (disch := omega) only [hg_ne, hg_eq, hgs_ne, *]; done) | (simp only [LAWSb]; done) | with_unfolding_all rfl) only [unf b40_0.eq_1, this, LAWSb, EVS, Nat.reduceAdd, Nat.reduceSub, Int.reduceToNat, Nat.reduceMul, Nat.reduceEqDiff, Nat.reduceLeDiff, Int.reduceEq, Int.reduceLT, Int.reduceLE, ↓reduceIte]
    exact formed_end t ht.self hall hl i
  | succ k ihk =>
    intro i hi hok
    have : (i : Int) < t.l.length := by omega
    have hx := ih _ (getD_mem (d := default) (show i < t.l.length by omega))
    by_cases hs : nodesOk (t.l.getD i default)
    · rw [decide_eq_true hs] at hx
      simp (disch := first | omega | (simp only [EVL] <;> omega) | (simp only [hget_c, Nat.reduceEqDiff, ↓reduceIte]; done) | assumption | (simp (disch := omega) only [hg_ne, hg_eq, hgs_ne, *]; done) | (simp only [LAWSb]; done) | with_unfolding_all rfl) only [unf b40_0.eq_1, c40, this, LAWSb, hx, EVS, Nat.reduceAdd, Nat.reduceSub, Int.reduceToNat, Nat.reduceMul, Nat.reduceEqDiff, Nat.reduceLeDiff, Int.reduceEq, Int.reduceLT, Int.reduceLE, ↓reduceIte]
      exact Ok_inL (by decide) (by simp [lowTm, low, lows, LAWSb]) (by simp [cutH, lowHeap, lowObj, lows, low, LAWSb]) (ihk (i + 1) (by omega) (fun j hj => by
        by_cases e : j = i
        · subst e; exact hs
        · exact hok j (by omega)))
    · rw [decide_eq_false hs] at hx
      simp (disch := first | omega | (simp only [EVL] <;> omega) | (simp only [hget_c, Nat.reduceEqDiff, ↓reduceIte]; done) | assumption | (simp (disch := omega) only [hg_ne, hg_eq, hgs_ne, *]; done) | (simp only [LAWSb]; done) | with_unfolding_all rfl) only [unf b40_0.eq_1, c40, this, LAWSb, hx, EVS, Nat.reduceAdd, Nat.reduceSub, Int.reduceToNat, Nat.reduceMul, Nat.reduceEqDiff, Nat.reduceLeDiff, Int.reduceEq, Int.reduceLT, Int.reduceLE, ↓reduceIte]
      exact (decide_eq_false fun hh => hs (((nodesOk_iff t).1 hh).2 _ (getD_mem (by omega)))).symm
open Classical in
theorem formed_spec (t : Te) (ht : TOk t) (hl : size t ≤ 1000000) : ∀ h nx, lim T 40 [.agg [.int .u8 (t).k, .int .i64 (t).w, .int .u64 (t).b, .str (t).s, .int .i64 (t).lo, .lst (t).e ((t).l.map tV)]] h nx = some (.bool (decide (nodesOk t)), h, nx) := by
  induction t using Tm'.ind with
  | h t ih =>
  have hsz := sizes_len t.l
  have hse := size_eq t
  refine lim_iso tg40 rfl rfl (by simp [pures, pure_, pu_Ts]) ?_
  simp (disch := first | omega | (simp only [EVL] <;> omega) | (simp only [hget_c, Nat.reduceEqDiff, ↓reduceIte]; done) | assumption | (simp (disch := omega) only [hg_ne, hg_eq, hgs_ne, *]; done) | (simp only [LAWSb]; done) | with_unfolding_all rfl) only [c40, LAWSb, EVS, Nat.reduceAdd, Nat.reduceSub, Int.reduceToNat, Nat.reduceMul, Nat.reduceEqDiff, Nat.reduceLeDiff, Int.reduceEq, Int.reduceLT, Int.reduceLE, ↓reduceIte]
  exact formed_loop t ht (by omega) (fun x hx => ih x hx (ht.sub hx) (by have := size_mem hx; omega)) t.l.length 0 (by omega) (fun j hj => by omega)
theorem list_loop (t : Te) (hl : t.l.length ≤ 1000000) (ih : ∀ x ∈ t.l, ∀ h nx, lim T 33 [.agg [.int .u8 (x).k, .int .i64 (x).w, .int .u64 (x).b, .str (x).s, .int .i64 (x).lo, .lst (x).e ((x).l.map tV)]] h nx = some (.lst false ((varList x).map bd0), h, nx)) : ∀ (k i n : Nat) (L : Env0) (h : Heap) (nx : Nat), i + k = t.l.length → n = L.length → (L ++ varL (nodesL (t.l.drop i))).length ≤ 1000000 → 3 ≤ nx → hget h 0 = some (.row 6 [.agg [.int .u8 (t).k, .int .i64 (t).w, .int .u64 (t).b, .str (t).s, .int .i64 (t).lo, .lst (t).e ((t).l.map tV)]]) → hget h 2 = some (.row 3 (L.map bd0)) →
    @Ok Out (runs T [.code b33_0, .inL none b33_0, .inB 0, .code k33_1] [(1, .ptr 0 1 0 0), (3, .sref 3 2 n 0 n), (4, .int .i64 i)] h nx) ⟨fun x => resV c33.res x = some (.lst false ((L ++ varL (nodesL (t.l.drop i))).map bd0))⟩ := by
  intro k
  induction k with
  | zero =>
    intro i n L h nx hi hn hb hx h0 h2
    have : ¬ (i : Int) < t.l.length := by omega
    rw [List.drop_eq_nil_of_le (by omega)] at hb ⊢
    simp only [nodesL, varL, List.append_nil] at hb
    simp (disch := first | omega | (simp only [EVL] <;> omega) | (simp only [hget_c, Nat.reduceEqDiff, ↓reduceIte]; done) | assumption | (simp (disch := omega) only [hg_ne, hg_eq, hgs_ne, *]; done) | (simp only [LAWSb]; done) | with_unfolding_all rfl) only [unf b33_0.eq_1, unf k33_1.eq_1, c33, this, LAWSb, h0, h2, EVS, Nat.reduceAdd, Nat.reduceSub, Int.reduceToNat, Nat.reduceMul, Nat.reduceEqDiff, Nat.reduceLeDiff, Int.reduceEq, Int.reduceLT, Int.reduceLE, ↓reduceIte]
    simp only [nodesL, varL, List.append_nil]
  | succ k ihk =>
    intro i n L h nx hi hn hb hx h0 h2
    have : (i : Int) < t.l.length := by omega
    have hx' := ih _ (getD_mem (d := default) (show i < t.l.length by omega))
    rw [varL_nodes (show i < t.l.length by omega), ← List.append_assoc] at hb ⊢
    have hb2 : (L ++ varList (t.l.getD i default)).length ≤ 1000000 := by rw [List.length_append] at hb; omega
    rw [List.length_append] at hb2
    simp (disch := first | omega | (simp only [EVL] <;> omega) | (simp only [hget_c, Nat.reduceEqDiff, ↓reduceIte]; done) | assumption | (simp (disch := omega) only [hg_ne, hg_eq, hgs_ne, *]; done) | (simp only [LAWSb]; done) | with_unfolding_all rfl) only [unf b33_0.eq_1, c33, this, LAWSb, hx', h0, h2, EVS, Nat.reduceAdd, Nat.reduceSub, Int.reduceToNat, Nat.reduceMul, Nat.reduceEqDiff, Nat.reduceLeDiff, Int.reduceEq, Int.reduceLT, Int.reduceLE, ↓reduceIte]
    rw [← List.map_append]
    exact Ok_inL0 (ihk (i + 1) _ _ _ _ (by omega) (by rw [List.length_append]; omega) hb (by omega) (by rw [hgs_ne (by decide)]; exact h0) (hgs_eq h2))
theorem rList_spec (t : Te) (hl : size t ≤ 1000000) : ∀ h nx, lim T 33 [.agg [.int .u8 (t).k, .int .i64 (t).w, .int .u64 (t).b, .str (t).s, .int .i64 (t).lo, .lst (t).e ((t).l.map tV)]] h nx = some (.lst false ((varList t).map bd0), h, nx) := by
  induction t using Tm'.ind with
  | h t ih =>
  have hsz := sizes_len t.l
  have hse := size_eq t
  have hvl := varL_len (nodesT t)
  rw [nodesT_len] at hvl
  have hvl : (varList t).length ≤ size t := hvl
  have lp := list_loop t (by omega) (fun x hx => ih x hx (by have := size_mem hx; omega)) t.l.length 0
  rw [varList_eq] at hvl ⊢
  refine lim_iso tg33 rfl rfl (by simp [pures, pure_, pu_Ts]) ?_
  by_cases hk : t.k = 2
  · rw [if_pos hk] at hvl ⊢
    simp (disch := first | omega | (simp only [EVL] <;> omega) | (simp only [hget_c, Nat.reduceEqDiff, ↓reduceIte]; done) | assumption | (simp (disch := omega) only [hg_ne, hg_eq, hgs_ne, *]; done) | (simp only [LAWSb]; done) | with_unfolding_all rfl) only [c33, LAWSb, hk, EVS, Nat.reduceAdd, Nat.reduceSub, Int.reduceToNat, Nat.reduceMul, Nat.reduceEqDiff, Nat.reduceLeDiff, Int.reduceEq, Int.reduceLT, Int.reduceLE, ↓reduceIte]
    have := lp 1 [(t.s, t.w)] [(12, .row 3 [.agg [.str t.s, .int .i64 t.w, .int .u64 0]]), (2, .row 3 [.agg [.str t.s, .int .i64 t.w, .int .u64 0]]), (0, .row 6 [.agg [.int .u8 (t).k, .int .i64 (t).w, .int .u64 (t).b, .str (t).s, .int .i64 (t).lo, .lst (t).e ((t).l.map tV)]])] 16 (by omega) rfl (by rw [List.drop_zero]; omega) (by omega) rfl rfl
    rw [List.drop_zero] at this
    rw [hk] at this
    exact this
  · rw [if_neg hk] at hvl ⊢
    simp (disch := first | omega | (simp only [EVL] <;> omega) | (simp only [hget_c, Nat.reduceEqDiff, ↓reduceIte]; done) | assumption | (simp (disch := omega) only [hg_ne, hg_eq, hgs_ne, *]; done) | (simp only [LAWSb]; done) | with_unfolding_all rfl) only [c33, LAWSb, hk, EVS, Nat.reduceAdd, Nat.reduceSub, Int.reduceToNat, Nat.reduceMul, Nat.reduceEqDiff, Nat.reduceLeDiff, Int.reduceEq, Int.reduceLT, Int.reduceLE, ↓reduceIte]
    have := lp 0 [] [(2, .row 3 []), (0, .row 6 [.agg [.int .u8 (t).k, .int .i64 (t).w, .int .u64 (t).b, .str (t).s, .int .i64 (t).lo, .lst (t).e ((t).l.map tV)]])] 7 (by omega) rfl (by rw [List.drop_zero]; omega) (by omega) rfl rfl
    rw [List.drop_zero] at this
    exact this
theorem cons_iff {L : Env0} : Cons L ↔ ∀ i k, i < L.length → k < i → (L.getD k ([], 0)).1 = (L.getD i ([], 0)).1 → (L.getD k ([], 0)).2 = (L.getD i ([], 0)).2 := by
  constructor
  · intro h i k hi hk e
    have h1 := getD_mem (d := (([], 0) : List UInt8 × Int)) hi
    have h2 := getD_mem (d := (([], 0) : List UInt8 × Int)) (show k < L.length by omega)
    generalize L.getD i ([], 0) = p at *
    generalize L.getD k ([], 0) = q at *
    obtain ⟨a, b⟩ := p
    obtain ⟨c, d⟩ := q
    dsimp only at e ⊢
    subst e
    exact h _ _ _ h2 h1
  · intro h s v w hv hw
    obtain ⟨i, hi, e1⟩ := List.mem_iff_getElem.1 hv
    obtain ⟨k, hk, e2⟩ := List.mem_iff_getElem.1 hw
    have g1 : L.getD i ([], 0) = (s, v) := by simp [List.getD, hi, e1]
    have g2 : L.getD k ([], 0) = (s, w) := by simp [List.getD, hk, e2]
    rcases Nat.lt_trichotomy i k with h1 | h1 | h1
    · have := h k i hk h1; rw [g1, g2] at this; exact this rfl
    · subst h1; rw [g1] at g2; cases g2; rfl
    · have := h i k hi h1; rw [g1, g2] at this; exact (this rfl).symm
abbrev CQ (L : Env0) (v : Int) : Prop := (Cons L → v = 0) ∧ (¬ Cons L → v = 14)
theorem check_in_loop (L : Env0) (hl : L.length ≤ 1000000) (i : Nat) (hi' : i < L.length) (hok : ∀ a b, a < i → b < a → (L.getD b ([], 0)).1 = (L.getD a ([], 0)).1 → (L.getD b ([], 0)).2 = (L.getD a ([], 0)).2) (hp : Heap) (hlow : lowHeap 17 (cutH 17 hp) = true) (hlow2 : lowHeap 22 (cutH 22 hp) = true) (hcc : cutH 22 hp = hp) (hcd : cutH 17 hp = hp)
    (next : (∀ b, b < i → (L.getD b ([], 0)).1 = (L.getD i ([], 0)).1 → (L.getD b ([], 0)).2 = (L.getD i ([], 0)).2) → @Ok Out (runs T [.code b15_2, .inL (some 17) b15_2, .inB 0, .code k15_3] [(3, .lst false (L.map bd0)), (4, .int .i64 ((i + 1 : Nat) : Int))] hp 17) ⟨fun x => @Ok FV (resV c15.res x) ⟨fun v => ∃ r : Int, v = .int .i64 r ∧ CQ L r⟩⟩) : ∀ (k j : Nat), j + k = i → (∀ b, b < j → (L.getD b ([], 0)).1 = (L.getD i ([], 0)).1 → (L.getD b ([], 0)).2 = (L.getD i ([], 0)).2) →
    @Ok Out (runs T [.code b15_0, .inL (some 22) b15_0, .inB 2, .inB 1, .code k15_1, .inL (some 17) b15_2, .inB 0, .code k15_3] [(3, .lst false (L.map bd0)), (4, .int .i64 i), (5, .int .i64 j)] hp 22) ⟨fun x => @Ok FV (resV c15.res x) ⟨fun v => ∃ r : Int, v = .int .i64 r ∧ CQ L r⟩⟩ := by
  intro k
  induction k with
  | zero =>
    intro j hj hb
    have : ¬ (j : Int) < i := by omega
    simp (disch := first | omega | (simp only [EVL] <;> omega) | (simp only [hget_c, Nat.reduceEqDiff, ↓reduceIte]; done) | assumption | (simp (disch := omega) only [hg_ne, hg_eq, hgs_ne, *]; done) | (simp only [LAWSb]; done) | with_unfolding_all rfl) only [unf b15_0.eq_1, unf k15_1.eq_1, c15, this, LAWSb, EVS, Nat.reduceAdd, Nat.reduceSub, Int.reduceToNat, Nat.reduceMul, Nat.reduceEqDiff, Nat.reduceLeDiff, Int.reduceEq, Int.reduceLT, Int.reduceLE, ↓reduceIte]
    exact Ok_inL (by decide) (by simp [lowTm, low, LAWSb]) hlow (by rw [hcd]; exact next (fun b hb' => hb b (by omega)))
  | succ k ih =>
    intro j hj hb
    have : (j : Int) < i := by omega
    by_cases h1 : (L.getD j ([], 0)).1 = (L.getD i ([], 0)).1
    · by_cases h2 : (L.getD j ([], 0)).2 = (L.getD i ([], 0)).2
      · simp (disch := first | omega | (simp only [EVL] <;> omega) | (simp only [hget_c, Nat.reduceEqDiff, ↓reduceIte]; done) | assumption | (simp (disch := omega) only [hg_ne, hg_eq, hgs_ne, *]; done) | (simp only [LAWSb]; done) | with_unfolding_all rfl) only [unf b15_0.eq_1, c15, this, LAWSb, h1, h2, EVS, Nat.reduceAdd, Nat.reduceSub, Int.reduceToNat, Nat.reduceMul, Nat.reduceEqDiff, Nat.reduceLeDiff, Int.reduceEq, Int.reduceLT, Int.reduceLE, ↓reduceIte]
        exact Ok_inL (by decide) (by simp [lowTm, low, LAWSb]) hlow2 (by rw [hcc]; exact ih (j + 1) (by omega) (fun b hb' e => by
          by_cases hbj : b = j
          · subst hbj; exact h2
          · exact hb b (by omega) e))
      · simp (disch := first | omega | (simp only [EVL] <;> omega) | (simp only [hget_c, Nat.reduceEqDiff, ↓reduceIte]; done) | assumption | (simp (disch := omega) only [hg_ne, hg_eq, hgs_ne, *]; done) | (simp only [LAWSb]; done) | with_unfolding_all rfl) only [unf b15_0.eq_1, c15, this, LAWSb, h1, h2, EVS, Nat.reduceAdd, Nat.reduceSub, Int.reduceToNat, Nat.reduceMul, Nat.reduceEqDiff, Nat.reduceLeDiff, Int.reduceEq, Int.reduceLT, Int.reduceLE, ↓reduceIte]
        exact ⟨14, rfl, fun hc => absurd (cons_iff.1 hc i j hi' (by omega) h1) h2, fun _ => rfl⟩
    · have h1' : ((L.getD j ([], 0)).1 == (L.getD i ([], 0)).1) = false := by simpa using h1
      simp (disch := first | omega | (simp only [EVL] <;> omega) | (simp only [hget_c, Nat.reduceEqDiff, ↓reduceIte]; done) | assumption | (simp (disch := omega) only [hg_ne, hg_eq, hgs_ne, *]; done) | (simp only [LAWSb]; done) | with_unfolding_all rfl) only [unf b15_0.eq_1, c15, this, LAWSb, h1', EVS, Nat.reduceAdd, Nat.reduceSub, Int.reduceToNat, Nat.reduceMul, Nat.reduceEqDiff, Nat.reduceLeDiff, Int.reduceEq, Int.reduceLT, Int.reduceLE, ↓reduceIte]
      exact Ok_inL (by decide) (by simp [lowTm, low, LAWSb]) hlow2 (by rw [hcc]; exact ih (j + 1) (by omega) (fun b hb' e => by
        by_cases hbj : b = j
        · subst hbj; exact absurd e h1
        · exact hb b (by omega) e))
theorem check_out_loop (L : Env0) (hl : L.length ≤ 1000000) (hp : Heap) (hlow : lowHeap 17 (cutH 17 hp) = true) (hlow2 : lowHeap 22 (cutH 22 hp) = true) (hcc : cutH 22 hp = hp) (hcd : cutH 17 hp = hp) : ∀ (k i : Nat), i + k = L.length → (∀ a b, a < i → b < a → (L.getD b ([], 0)).1 = (L.getD a ([], 0)).1 → (L.getD b ([], 0)).2 = (L.getD a ([], 0)).2) →
    @Ok Out (runs T [.code b15_2, .inL (some 17) b15_2, .inB 0, .code k15_3] [(3, .lst false (L.map bd0)), (4, .int .i64 i)] hp 17) ⟨fun x => @Ok FV (resV c15.res x) ⟨fun v => ∃ r : Int, v = .int .i64 r ∧ CQ L r⟩⟩ := by
  intro k
  induction k with
  | zero =>
    intro i hi hok
    have : ¬ (i : Int) < L.length := by omega
    simp (disch := first | omega | (simp only [EVL] <;> omega) | (simp only [hget_c, Nat.reduceEqDiff, ↓reduceIte]; done) | assumption | (simp (disch := omega) only [hg_ne, hg_eq, hgs_ne, *]; done) | (simp only [LAWSb]; done) | with_unfolding_all rfl) only [unf b15_2.eq_1, unf k15_3.eq_1, c15, this, LAWSb, EVS, Nat.reduceAdd, Nat.reduceSub, Int.reduceToNat, Nat.reduceMul, Nat.reduceEqDiff, Nat.reduceLeDiff, Int.reduceEq, Int.reduceLT, Int.reduceLE, ↓reduceIte]
    exact ⟨0, rfl, fun _ => rfl, fun hc => absurd (cons_iff.2 fun a b ha hb e => hok a b (by omega) hb e) hc⟩
  | succ k ih =>
    intro i hi hok
    have : (i : Int) < L.length := by omega
    simp (disch := first | omega | (simp only [EVL] <;> omega) | (simp only [hget_c, Nat.reduceEqDiff, ↓reduceIte]; done) | assumption | (simp (disch := omega) only [hg_ne, hg_eq, hgs_ne, *]; done) | (simp only [LAWSb]; done) | with_unfolding_all rfl) only [unf b15_2.eq_1, c15, this, LAWSb, EVS, Nat.reduceAdd, Nat.reduceSub, Int.reduceToNat, Nat.reduceMul, Nat.reduceEqDiff, Nat.reduceLeDiff, Int.reduceEq, Int.reduceLT, Int.reduceLE, ↓reduceIte]
    exact check_in_loop L hl i (by omega) hok hp hlow hlow2 hcc hcd (fun hb => ih (i + 1) (by omega) (fun a b ha hb' e => by
      by_cases hai : a = i
      · subst hai; exact hb b hb' e
      · exact hok a b (by omega) hb' e)) i 0 (by omega) (fun b hb => by omega)
open Classical in
theorem rCheck_spec (t : Te) (ht : TOk t) (hl : size t ≤ 1000000) : ∀ h nx, lim T 15 [.agg [.int .u8 (t).k, .int .i64 (t).w, .int .u64 (t).b, .str (t).s, .int .i64 (t).lo, .lst (t).e ((t).l.map tV)]] h nx = some (.int .i64 (checkS t), h, nx) := by
  have hs := rSize_spec t hl
  have hd := rDepth_spec t hl
  have hf := formed_spec t ht hl
  have hli := rList_spec t hl
  have hvl : (varList t).length ≤ size t := by have := varL_len (nodesT t); rw [nodesT_len] at this; exact this
  refine lim_iso tg15 rfl rfl (by simp [pures, pure_, pu_Ts]) ?_
  by_cases hm : 400 < size t ∨ 60 < depth t
  · rw [← check_many hm]
    simp (disch := first | omega | (simp only [EVL] <;> omega) | (simp only [hget_c, Nat.reduceEqDiff, ↓reduceIte]; done) | assumption | (simp (disch := omega) only [hg_ne, hg_eq, hgs_ne, *]; done) | (simp only [LAWSb]; done) | with_unfolding_all rfl) only [c15, LAWSb, hs, hd, EVS, Nat.reduceAdd, Nat.reduceSub, Int.reduceToNat, Nat.reduceMul, Nat.reduceEqDiff, Nat.reduceLeDiff, Int.reduceEq, Int.reduceLT, Int.reduceLE, ↓reduceIte]
    repeat' (refine Ok_if (fun hb => ?_) (fun hb => ?_) <;> have h := hb <;> (try simp only [decide_eq_true_eq, decide_eq_false_iff_not, Int.not_lt, Int.not_le] at h) <;> (simp (disch := first | omega | (simp only [EVL] <;> omega) | (simp only [hget_c, Nat.reduceEqDiff, ↓reduceIte]; done) | assumption | (simp (disch := omega) only [hg_ne, hg_eq, hgs_ne, *]; done) | (simp only [LAWSb]; done) | with_unfolding_all rfl) only [hb, c15, LAWSb, hs, hd, EVS, Nat.reduceAdd, Nat.reduceSub, Int.reduceToNat, Nat.reduceMul, Nat.reduceEqDiff, Nat.reduceLeDiff, Int.reduceEq, Int.reduceLT, Int.reduceLE, ↓reduceIte]) <;> (try clear hb))
    all_goals omega
  · by_cases hn : nodesOk t
    · rw [decide_eq_true hn] at hf
      have h1 : ¬ (400 : Int) < size t := by omega
      have h2 : ¬ (60 : Int) < depth t := by omega
      rw [check_in hm hn]
      simp (disch := first | omega | (simp only [EVL] <;> omega) | (simp only [hget_c, Nat.reduceEqDiff, ↓reduceIte]; done) | assumption | (simp (disch := omega) only [hg_ne, hg_eq, hgs_ne, *]; done) | (simp only [LAWSb]; done) | with_unfolding_all rfl) only [c15, LAWSb, hs, hd, h1, h2, hf, hli, EVS, Nat.reduceAdd, Nat.reduceSub, Int.reduceToNat, Nat.reduceMul, Nat.reduceEqDiff, Nat.reduceLeDiff, Int.reduceEq, Int.reduceLT, Int.reduceLE, ↓reduceIte]
      have lp := check_out_loop (varList t) (by omega) [(0, .row 6 [.agg [.int .u8 (t).k, .int .i64 (t).w, .int .u64 (t).b, .str (t).s, .int .i64 (t).lo, .lst (t).e ((t).l.map tV)]])] (by simp [cutH, lowHeap, lowObj, lows, low, LAWSb]) (by simp [cutH, lowHeap, lowObj, lows, low, LAWSb]) rfl rfl (varList t).length 0 (by omega) (fun a b ha => by omega)
      obtain ⟨x, h1, v, h2, r, rfl, hr⟩ := lp
      refine ⟨x, h1, ?_⟩
      show resV c15.res x = _
      rw [h2]
      cases hv : varsE t with
      | inl en => rw [hr.1 (varsE_in hv).1]
      | inr u => rw [hr.2 (varsE_no hv)]
    · rw [decide_eq_false hn] at hf
      have h1 : ¬ (400 : Int) < size t := by omega
      have h2 : ¬ (60 : Int) < depth t := by omega
      rw [← check_bad hm hn]
      simp (disch := first | omega | (simp only [EVL] <;> omega) | (simp only [hget_c, Nat.reduceEqDiff, ↓reduceIte]; done) | assumption | (simp (disch := omega) only [hg_ne, hg_eq, hgs_ne, *]; done) | (simp only [LAWSb]; done) | with_unfolding_all rfl) only [c15, LAWSb, hs, hd, h1, h2, hf, EVS, Nat.reduceAdd, Nat.reduceSub, Int.reduceToNat, Nat.reduceMul, Nat.reduceEqDiff, Nat.reduceLeDiff, Int.reduceEq, Int.reduceLT, Int.reduceLE, ↓reduceIte]

def TwR (h : Heap) (nx : Nat) (t : Te) (r : FV × Heap × Nat) : Prop := RpT r.2.1 nx r.2.2 r.1 t ∧ Ext h r.2.1 nx r.2.2
theorem twin_loop (t : Te) (hl : t.l.length ≤ 1000000) (h0 : Heap) (b : Nat) (ih : ∀ x ∈ t.l, ∀ h nx, ∃ r, lim T 11 [.agg [.int .u8 (x).k, .int .i64 (x).w, .int .u64 (x).b, .str (x).s, .int .i64 (x).lo, .lst (x).e ((x).l.map tV)]] h nx = some r ∧ TwR h nx x r) : ∀ (k i : Nat) (xs : List FV) (h : Heap) (nx : Nat), i + k = t.l.length → b + 3 ≤ nx → (∀ j, j < b → hget h j = hget h0 j) → hget h b = some (.row 6 [.agg [.int .u8 (t).k, .int .i64 (t).w, .int .u64 (t).b, .str (t).s, .int .i64 (t).lo, .lst (t).e ((t).l.map tV)]]) → (∃ z0 z1 z2 z3 z4 z5, hget h (b + 1) = some (.row 6 [.agg [z0, z1, z2, z3, z4, z5]])) → hget h (b + 2) = some (.row 6 xs) → RpL h (b + 3) nx xs (t.l.take i) →
    @Ok Out (runs T [.code b11_0, .inL none b11_0, .inB 0, .code k11_1] [(1, .ptr b 1 0 0), (2, .ptr (b + 1) 1 0 0), (3, .sref 6 (b + 2) i 0 i), (7, .lst t.e (t.l.map tV)), (8, .int .i64 t.l.length), (9, .int .i64 i)] h nx)
      ⟨fun x => @Ok FV (finV c11.res x) ⟨fun v => TwR h0 b t (v, x.2.2.1, x.2.2.2)⟩⟩ := by
  intro k
  induction k with
  | zero =>
    intro i xs h nx hi hb hx q0 q1 q2 hr
    obtain ⟨z0, z1, z2, z3, z4, z5, q1⟩ := q1
    have : ¬ (i : Int) < t.l.length := by omega
    have hil : i = t.l.length := by omega
    rw [List.take_of_length_le (by omega)] at hr
    simp (disch := first | omega | (simp only [EVL] <;> omega) | (simp only [hget_c, Nat.reduceEqDiff, ↓reduceIte]; done) | assumption | (simp (disch := omega) only [hg_ne, hg_eq, hgs_ne, *]; done) | (simp only [LAWSb]; done) | with_unfolding_all rfl) only [unf b11_0.eq_1, unf k11_1.eq_1, c11, this, LAWSb, q0, q1, hgs_ne, hgx_e, Option.map_some, EVS, Nat.reduceAdd, Nat.reduceSub, Int.reduceToNat, Nat.reduceMul, Nat.reduceEqDiff, Nat.reduceLeDiff, Int.reduceEq, Int.reduceLT, Int.reduceLE, ↓reduceIte]
    subst hil
    refine ⟨RpT_iff.2 ⟨_, rfl, .inr ⟨b + 2, xs, rfl, by omega, by dsimp only; omega, by (simp (disch := omega) only [hg_ne, hg_eq, hgs_ne, hgx_e, Option.map_some, *]), hr.mono (by omega) (by dsimp only; omega) (fun j hj1 hj2 => by simp (disch := omega) only [hgs_ne])⟩⟩, by dsimp only; omega, fun j hj => by simp (disch := omega) only [hgs_ne]; exact hx j hj⟩
  | succ k ihk =>
    intro i xs h nx hi hb hx q0 q1 q2 hr
    have : (i : Int) < t.l.length := by omega
    have hlen := hr.length
    rw [List.length_take] at hlen
    simp (disch := first | omega | (simp only [EVL] <;> omega) | (simp only [hget_c, Nat.reduceEqDiff, ↓reduceIte]; done) | assumption | (simp (disch := omega) only [hg_ne, hg_eq, hgs_ne, *]; done) | (simp only [LAWSb]; done) | with_unfolding_all rfl) only [unf b11_0.eq_1, c11, this, LAWSb, EVS, Nat.reduceAdd, Nat.reduceSub, Int.reduceToNat, Nat.reduceMul, Nat.reduceEqDiff, Nat.reduceLeDiff, Int.reduceEq, Int.reduceLT, Int.reduceLE, ↓reduceIte]
    refine Ok_call (ih _ (getD_mem (d := default) (show i < t.l.length by omega)) _ _) fun r hr' => ?_
    obtain ⟨v, h', nx'⟩ := r
    obtain ⟨hv, hx1, hx2⟩ := hr'
    dsimp only at hv hx1 hx2
    obtain ⟨c, rfl, hc⟩ := RpT_iff.1 hv
    refine ⟨rfl, ?_⟩
    have g2 : hget h' (b + 2) = some (.row 6 xs) := by rw [hx2 _ (by omega), hg_ne (by omega)]; exact q2
    have cok : c.one = true ∧ c.cells.length = 1 := by
      rcases hc with ⟨e, rfl, _⟩ | ⟨id, xs, rfl, _⟩ <;> exact ⟨rfl, rfl⟩
    simp (disch := first | omega | (simp only [EVL] <;> omega) | (simp only [hget_c, Nat.reduceEqDiff, ↓reduceIte]; done) | assumption | (simp (disch := omega) only [hg_ne, hg_eq, hgs_ne, *]; done) | (simp only [LAWSb]; done) | with_unfolding_all rfl) only [c11, LAWSb, g2, cok.1, EVS, Nat.reduceAdd, Nat.reduceSub, Int.reduceToNat, Nat.reduceMul, Nat.reduceEqDiff, Nat.reduceLeDiff, Int.reduceEq, Int.reduceLT, Int.reduceLE, ↓reduceIte]
    obtain ⟨z0, z1, z2, z3, z4, z5, q1⟩ := q1
    refine Ok_inL0 (ihk (i + 1) (xs ++ [.agg [.int .u8 (t.l.getD i default).k, .int .i64 (t.l.getD i default).w, .int .u64 (t.l.getD i default).b, .str (t.l.getD i default).s, .int .i64 (t.l.getD i default).lo, c]]) _ _ (by omega) (by omega) (fun j hj => ?_) ?_ ⟨z0, z1, z2, z3, z4, z5, ?_⟩ ?_ ?_)
    · rw [hg_ne (by omega), hgs_ne (by omega), hx2 _ (by omega), hg_ne (by omega)]; exact hx j hj
    · rw [hg_ne (by omega), hgs_ne (by omega), hx2 _ (by omega), hg_ne (by omega)]; exact q0
    · rw [hg_ne (by omega), hgs_ne (by omega), hx2 _ (by omega), hg_ne (by omega)]; exact q1
    · rw [hg_ne (by omega)]; exact hgs_eq g2
    · rw [take_succ (by omega)]
      refine RpL.app (ys := [_]) (m := [_]) ⟨hv.mono (by omega) (by omega) (fun j hj1 hj2 => by rw [hg_ne (by omega), hgs_ne (by omega)]), trivial⟩ (hr.mono (by omega) (by omega) (fun j hj1 hj2 => by rw [hg_ne (by omega), hgs_ne (by omega), hx2 _ (by omega), hg_ne (by omega)]))
theorem twin_spec (t : Te) (hl : size t ≤ 1000000) : ∀ h nx, ∃ r, lim T 11 [.agg [.int .u8 (t).k, .int .i64 (t).w, .int .u64 (t).b, .str (t).s, .int .i64 (t).lo, .lst (t).e ((t).l.map tV)]] h nx = some r ∧ TwR h nx t r := by
  induction t using Tm'.ind with
  | h t ih =>
  have hsz := sizes_len t.l
  have hse := size_eq t
  intro h nx
  rw [lim_shr tg11 rfl rfl]
  suffices hh : @Ok Out (runs T [.code c11.body] (params 0 [.agg [.int .u8 (t).k, .int .i64 (t).w, .int .u64 (t).b, .str (t).s, .int .i64 (t).lo, .lst (t).e ((t).l.map tV)]]) h nx) ⟨fun x => @Ok FV (finV c11.res x) ⟨fun v => TwR h nx t (v, x.2.2.1, x.2.2.2)⟩⟩ by
    obtain ⟨x, h1, v, h2, h3⟩ := hh
    exact ⟨(v, x.2.2.1, x.2.2.2), by rw [h1, B_some, h2, B_some], h3⟩
  simp (disch := first | omega | (simp only [EVL] <;> omega) | (simp only [hget_c, Nat.reduceEqDiff, ↓reduceIte]; done) | assumption | (simp (disch := omega) only [hg_ne, hg_eq, hgs_ne, *]; done) | (simp only [LAWSb]; done) | with_unfolding_all rfl) only [c11, LAWSb, EVS, Nat.reduceAdd, Nat.reduceSub, Int.reduceToNat, Nat.reduceMul, Nat.reduceEqDiff, Nat.reduceLeDiff, Int.reduceEq, Int.reduceLT, Int.reduceLE, ↓reduceIte]
  exact twin_loop t (by omega) h nx (fun x hx => ih x hx (by have := size_mem hx; omega)) t.l.length 0 [] _ _ (by omega) (by omega) (fun j hj => by rw [hg_ne (by omega), hg_ne (by omega), hg_ne (by omega)]) (by rw [hg_ne (by omega), hg_ne (by omega)]; exact hg_eq) ⟨_, _, _, _, _, _, by rw [hg_ne (by omega)]; exact hg_eq⟩ hg_eq (by rw [List.take_zero]; trivial)
theorem rTwin_loop (t : Te) (hl : t.l.length ≤ 1000000) (h0 : Heap) (b : Nat) (ih : ∀ x ∈ t.l, ∀ h nx, ∃ r, lim T 7 [.agg [.int .u8 (x).k, .int .i64 (x).w, .int .u64 (x).b, .str (x).s, .int .i64 (x).lo, .lst (x).e ((x).l.map tV)]] h nx = some r ∧ TwR h nx x r) : ∀ (k i : Nat) (c : FV) (h : Heap) (nx : Nat), i + k = t.l.length → b + 16 ≤ nx → (∀ j, j < b → hget h j = hget h0 j) → hget h b = some (.row 6 [.agg [.int .u8 (t).k, .int .i64 (t).w, .int .u64 (t).b, .str (t).s, .int .i64 (t).lo, .lst (t).e ((t).l.map tV)]]) → (∃ z0 z1 z2 z3 z4 z5, hget h (b + 1) = some (.row 6 [.agg [z0, z1, z2, z3, z4, z5]])) → hget h (b + 13) = some (.row 6 [.agg [.int .u8 t.k, .int .i64 t.w, .int .u64 t.b, .str t.s, .int .i64 t.lo, c]]) → ((c = .lst true [] ∧ i = 0) ∨ ∃ id xs, c = .sref 6 id i 0 i ∧ b + 14 ≤ id ∧ id < nx ∧ 0 < i ∧ hget h id = some (.row 6 xs) ∧ RpL h (id + 1) nx xs (t.l.take i)) →
    @Ok Out (runs T [.code b7_0, .inL none b7_0, .inB 0, .code k7_1] [(1, .ptr b 1 0 0), (2, .ptr (b + 1) 1 0 0), (3, .ptr (b + 13) 1 0 0), (4, .int .i64 i)] h nx)
      ⟨fun x => @Ok FV (finV c7.res x) ⟨fun v => TwR h0 b t (v, x.2.2.1, x.2.2.2)⟩⟩ := by
  intro k
  induction k with
  | zero =>
    intro i c h nx hi hb hx q0 q1 q2 hr
    obtain ⟨z0, z1, z2, z3, z4, z5, q1⟩ := q1
    have : ¬ (i : Int) < t.l.length := by omega
    have hil : i = t.l.length := by omega
    have cok : c.one = true ∧ c.cells.length = 1 := by
      rcases hr with ⟨rfl, _⟩ | ⟨id, xs, rfl, _⟩ <;> exact ⟨rfl, rfl⟩
    simp (disch := first | omega | (simp only [EVL] <;> omega) | (simp only [hget_c, Nat.reduceEqDiff, ↓reduceIte]; done) | assumption | (simp (disch := omega) only [hg_ne, hg_eq, hgs_ne, *]; done) | (simp only [LAWSb]; done) | with_unfolding_all rfl) only [unf b7_0.eq_1, unf k7_1.eq_1, c7, this, LAWSb, q0, q1, q2, cok.1, hgs_ne, hgx_e, Option.map_some, EVS, Nat.reduceAdd, Nat.reduceSub, Int.reduceToNat, Nat.reduceMul, Nat.reduceEqDiff, Nat.reduceLeDiff, Int.reduceEq, Int.reduceLT, Int.reduceLE, ↓reduceIte]
    subst hil
    refine ⟨RpT_iff.2 ⟨_, rfl, ?_⟩, by dsimp only; omega, fun j hj => by simp (disch := omega) only [hgs_ne]; exact hx j hj⟩
    rcases hr with ⟨rfl, h0⟩ | ⟨id, xs, rfl, hid, hid2, h0i, g, hr⟩
    · exact .inl ⟨true, rfl, List.length_eq_zero_iff.1 h0⟩
    · rw [List.take_of_length_le (by omega)] at hr
      exact .inr ⟨id, xs, rfl, by omega, by dsimp only; omega, by rw [hgs_ne (by omega)]; exact g, hr.mono (by omega) (by dsimp only; omega) (fun j hj1 hj2 => by rw [hgs_ne (by omega)])⟩
  | succ k ihk =>
    intro i c h nx hi hb hx q0 q1 q2 hr
    have : (i : Int) < t.l.length := by omega
    rcases hr with ⟨rfl, rfl⟩ | ⟨id, xs, rfl, hid, hid2, h0i, g, hr⟩
    · simp (disch := first | omega | (simp only [EVL] <;> omega) | (simp only [hget_c, Nat.reduceEqDiff, ↓reduceIte]; done) | assumption | (simp (disch := omega) only [hg_ne, hg_eq, hgs_ne, *]; done) | (simp only [LAWSb]; done) | with_unfolding_all rfl) only [unf b7_0.eq_1, c7, this, LAWSb, q0, q1, q2, EVS, Nat.reduceAdd, Nat.reduceSub, Int.reduceToNat, Nat.reduceMul, Nat.reduceEqDiff, Nat.reduceLeDiff, Int.reduceEq, Int.reduceLT, Int.reduceLE, ↓reduceIte]
      refine Ok_call (ih _ (getD_mem (d := default) (show 0 < t.l.length by omega)) _ _) fun r hr' => ?_
      obtain ⟨v, h', nx'⟩ := r
      obtain ⟨hv, hx1, hx2⟩ := hr'
      dsimp only at hv hx1 hx2
      obtain ⟨c, rfl, hc⟩ := RpT_iff.1 hv
      refine ⟨rfl, ?_⟩
      have cok : c.one = true ∧ c.cells.length = 1 := by
        rcases hc with ⟨e, rfl, _⟩ | ⟨id, xs, rfl, _⟩ <;> exact ⟨rfl, rfl⟩
      have g0 : hget h' b = some (.row 6 [.agg [.int .u8 (t).k, .int .i64 (t).w, .int .u64 (t).b, .str (t).s, .int .i64 (t).lo, .lst (t).e ((t).l.map tV)]]) := (hx2 _ (by omega)).trans q0
      have g2 := (hx2 (b + 13) (by omega)).trans q2
      simp (disch := first | omega | (simp only [EVL] <;> omega) | (simp only [hget_c, Nat.reduceEqDiff, ↓reduceIte]; done) | assumption | (simp (disch := omega) only [hg_ne, hg_eq, hgs_ne, *]; done) | (simp only [LAWSb]; done) | with_unfolding_all rfl) only [c7, LAWSb, g0, g2, cok.1, EVS, Nat.reduceAdd, Nat.reduceSub, Int.reduceToNat, Nat.reduceMul, Nat.reduceEqDiff, Nat.reduceLeDiff, Int.reduceEq, Int.reduceLT, Int.reduceLE, ↓reduceIte]
      obtain ⟨z0, z1, z2, z3, z4, z5, q1⟩ := q1
      refine Ok_inL0 (ihk 1 _ _ _ (by omega) (by omega) (fun j hj => ?_) ?_ ⟨z0, z1, z2, z3, z4, z5, ?_⟩ ?_ (.inr ⟨_, _, rfl, ?_, ?_, by omega, hg_eq, ?_⟩))
      · rw [hg_ne (by omega), hg_ne (by omega), hgs_ne (by omega), hx2 _ (by omega)]; exact hx j hj
      · rw [hg_ne (by omega), hg_ne (by omega), hgs_ne (by omega)]; exact g0
      · rw [hg_ne (by omega), hg_ne (by omega), hgs_ne (by omega), hx2 _ (by omega)]; exact q1
      · rw [hg_ne (by omega), hg_ne (by omega)]; exact hgs_eq g2
      · omega
      · omega
      · rw [show t.l.take 1 = [t.l.getD 0 default] by rw [take_succ (by omega)]; simp]
        exact ⟨hv.mono (by omega) (by omega) (fun j hj1 hj2 => by rw [hg_ne (by omega), hg_ne (by omega), hgs_ne (by omega)]), trivial⟩
    · simp (disch := first | omega | (simp only [EVL] <;> omega) | (simp only [hget_c, Nat.reduceEqDiff, ↓reduceIte]; done) | assumption | (simp (disch := omega) only [hg_ne, hg_eq, hgs_ne, *]; done) | (simp only [LAWSb]; done) | with_unfolding_all rfl) only [unf b7_0.eq_1, c7, this, LAWSb, q0, q1, q2, EVS, Nat.reduceAdd, Nat.reduceSub, Int.reduceToNat, Nat.reduceMul, Nat.reduceEqDiff, Nat.reduceLeDiff, Int.reduceEq, Int.reduceLT, Int.reduceLE, ↓reduceIte]
      refine Ok_call (ih _ (getD_mem (d := default) (show i < t.l.length by omega)) _ _) fun r hr' => ?_
      obtain ⟨v, h', nx'⟩ := r
      obtain ⟨hv, hx1, hx2⟩ := hr'
      dsimp only at hv hx1 hx2
      obtain ⟨c, rfl, hc⟩ := RpT_iff.1 hv
      refine ⟨rfl, ?_⟩
      have cok : c.one = true ∧ c.cells.length = 1 := by
        rcases hc with ⟨e, rfl, _⟩ | ⟨id, xs, rfl, _⟩ <;> exact ⟨rfl, rfl⟩
      have g0 : hget h' b = some (.row 6 [.agg [.int .u8 (t).k, .int .i64 (t).w, .int .u64 (t).b, .str (t).s, .int .i64 (t).lo, .lst (t).e ((t).l.map tV)]]) := (hx2 _ (by omega)).trans q0
      have g2 := (hx2 (b + 13) (by omega)).trans q2
      have g := (hx2 id (by omega)).trans g
      have hlen : xs.length = i := by have := hr.length; rw [List.length_take] at this; omega
      simp (disch := first | omega | (simp only [EVL] <;> omega) | (simp only [hget_c, Nat.reduceEqDiff, ↓reduceIte]; done) | assumption | (simp (disch := omega) only [hg_ne, hg_eq, hgs_ne, *]; done) | (simp only [LAWSb]; done) | with_unfolding_all rfl) only [c7, LAWSb, g0, g2, g, cok.1, hgs_ne, hgx_e, Option.map_some, EVS, Nat.reduceAdd, Nat.reduceSub, Int.reduceToNat, Nat.reduceMul, Nat.reduceEqDiff, Nat.reduceLeDiff, Int.reduceEq, Int.reduceLT, Int.reduceLE, ↓reduceIte]
      obtain ⟨z0, z1, z2, z3, z4, z5, q1⟩ := q1
      refine Ok_inL0 (ihk (i + 1) _ _ _ (by omega) (by omega) (fun j hj => ?_) ?_ ⟨z0, z1, z2, z3, z4, z5, ?_⟩ ?_ (.inr ⟨id, xs ++ [.agg [.int .u8 (t.l.getD i default).k, .int .i64 (t.l.getD i default).w, .int .u64 (t.l.getD i default).b, .str (t.l.getD i default).s, .int .i64 (t.l.getD i default).lo, c]], rfl, by omega, by omega, by omega, ?_, ?_⟩))
      · rw [hg_ne (by omega), hgs_ne (by omega), hgs_ne (by omega), hx2 _ (by omega)]; exact hx j hj
      · rw [hg_ne (by omega), hgs_ne (by omega), hgs_ne (by omega)]; exact g0
      · rw [hg_ne (by omega), hgs_ne (by omega), hgs_ne (by omega), hx2 _ (by omega)]; exact q1
      · rw [hg_ne (by omega)]
        refine hgs_eq (q := .row 6 [.agg [.int .u8 t.k, .int .i64 t.w, .int .u64 t.b, .str t.s, .int .i64 t.lo, .sref 6 id i 0 i]]) ?_
        rw [hgs_ne (by omega)]; exact g2
      · rw [hg_ne (by omega), hgs_ne (by omega)]; exact hgs_eq g
      · rw [take_succ (by omega)]
        refine RpL.app (ys := [_]) (m := [_]) ⟨hv.mono (by omega) (by omega) (fun j hj1 hj2 => by rw [hg_ne (by omega), hgs_ne (by omega), hgs_ne (by omega)]), trivial⟩ (hr.mono (by omega) (by omega) (fun j hj1 hj2 => by rw [hg_ne (by omega), hgs_ne (by omega), hgs_ne (by omega), hx2 _ (by omega)]))
theorem rTwin_spec (t : Te) (hl : size t ≤ 1000000) : ∀ h nx, ∃ r, lim T 7 [.agg [.int .u8 (t).k, .int .i64 (t).w, .int .u64 (t).b, .str (t).s, .int .i64 (t).lo, .lst (t).e ((t).l.map tV)]] h nx = some r ∧ TwR h nx t r := by
  induction t using Tm'.ind with
  | h t ih =>
  have hsz := sizes_len t.l
  have hse := size_eq t
  intro h nx
  rw [lim_shr tg7 rfl rfl]
  suffices hh : @Ok Out (runs T [.code c7.body] (params 0 [.agg [.int .u8 (t).k, .int .i64 (t).w, .int .u64 (t).b, .str (t).s, .int .i64 (t).lo, .lst (t).e ((t).l.map tV)]]) h nx) ⟨fun x => @Ok FV (finV c7.res x) ⟨fun v => TwR h nx t (v, x.2.2.1, x.2.2.2)⟩⟩ by
    obtain ⟨x, h1, v, h2, h3⟩ := hh
    exact ⟨(v, x.2.2.1, x.2.2.2), by rw [h1, B_some, h2, B_some], h3⟩
  simp (disch := first | omega | (simp only [EVL] <;> omega) | (simp only [hget_c, Nat.reduceEqDiff, ↓reduceIte]; done) | assumption | (simp (disch := omega) only [hg_ne, hg_eq, hgs_ne, *]; done) | (simp only [LAWSb]; done) | with_unfolding_all rfl) only [c7, LAWSb, Nat.add_assoc, EVS, Nat.reduceAdd, Nat.reduceSub, Int.reduceToNat, Nat.reduceMul, Nat.reduceEqDiff, Nat.reduceLeDiff, Int.reduceEq, Int.reduceLT, Int.reduceLE, ↓reduceIte]
  exact rTwin_loop t (by omega) h nx (fun x hx => ih x hx (by have := size_mem hx; omega)) t.l.length 0 (.lst true []) _ _ (by omega) (by omega) (fun j hj => by rw [hg_ne (by omega), hg_ne (by omega), hg_ne (by omega)]) (by rw [hg_ne (by omega), hg_ne (by omega)]; exact hg_eq) ⟨_, _, _, _, _, _, by rw [hg_ne (by omega)]; exact hg_eq⟩ hg_eq (.inl ⟨rfl, rfl⟩)
end Go.Proofs.YtkobnfjeehnhlaaDoor.Fi
