/- What TermBytes does. -/
import Derived.Test.YtkobnfjeehnhlaaGreatDoorSL
import Derived.Test.YtkobnfjeehnhlaaGreatDoorTKl
set_option linter.all false
set_option linter.unusedSimpArgs false
set_option linter.unusedVariables false
set_option linter.unusedSectionVars false
namespace Go.Proofs.YtkobnfjeehnhlaaGreatDoor.Fi
open Go.FI
theorem shr_byte (b k i : Nat) (hb : b < 256) (h : i < k) : (b <<< (8 * k)) >>> (8 * i) &&& 255 = 0 := by
  rw [Nat.shiftLeft_eq, Nat.shiftRight_eq_div_pow, show 8 * k = 8 * i + 8 * (k - i) by omega, Nat.pow_add, ← Nat.mul_assoc, Nat.mul_right_comm, Nat.mul_div_cancel _ (Nat.pow_pos (by decide))]
  rw [show 255 = 2 ^ 8 - 1 from rfl, Nat.and_two_pow_sub_one_eq_mod, show 8 * (k - i) = 8 + 8 * (k - i - 1) by omega, Nat.pow_add, ← Nat.mul_assoc, Nat.mul_right_comm]
  exact Nat.mul_mod_left _ _
theorem ldS_byte {m : Mem} (hm : okM m) (w at_ : Int) : ∀ n i, i < n → (ldS m w at_ n >>> (8 * i)) &&& 255 = (byteS m (addrS w at_ i)).toNat := by
  intro n
  induction n with
  | zero => intro i h; omega
  | succ n ih =>
    intro i h
    have hb := byteS_bd hm (addrS w at_ n)
    simp only [ldS]
    rw [Nat.shiftRight_or_distrib, Nat.and_or_distrib_right]
    by_cases e : i = n
    · subst e
      rw [Nat.shiftRight_eq_div_pow (ldS m w at_ i), Nat.div_eq_of_lt (ldS_lt hm w at_ i), Nat.zero_and, Nat.zero_or, Nat.shiftLeft_eq, Nat.shiftRight_eq_div_pow, Nat.mul_div_cancel _ (Nat.pow_pos (by decide))]
      rw [show 255 = 2 ^ 8 - 1 from rfl, Nat.and_two_pow_sub_one_eq_mod]
      omega
    · rw [ih i (by omega), shr_byte _ n i (by omega) (by omega), Nat.or_zero]
theorem alive_iso (h : Heap) (nx : Nat) : lim T 19 [] h nx = some (.bool true, h, nx) := by
  obtain ⟨h', nx', hl⟩ := isTrue_some law_true
  have hl := le_lim T _ _ _ _ _ _ hl
  exact lim_iso_any tg19 rfl hl (by decide) h nx
theorem bytes_in (m : Mem) (hm : okM m) (h0 : m.length ≤ 4200) (hs : memS m) (w at_ : Int) (hw : 1 ≤ w) (hw' : w ≤ 64) (ha : 0 ≤ at_) (ha' : at_ < 2 ^ w.toNat) (i n : Nat) (hn : n ≤ 64) (hd : n % 8 = 0) (hi4 : i < 4)
    (next : @Ok Out (runs T [.code b5_2, .inL (some 25) b5_2, .inB 0, .code k5_3] [(0, .lst false (m.map ceV)), (2, .int .u64 at_), (7, .bool true), (8, .int .i64 w), (36, .sref 1 22 4 0 4), (37, .int .i64 4), (38, .int .i64 ((i + 1 : Nat) : Int))] [(22, .row 1 [.int .i64 8, .int .i64 16, .int .i64 32, .int .i64 64])] 25) ⟨fun x => resV c5.res x = some (.bool true)⟩) : ∀ (k j : Nat), j + k = n / 8 →
    @Ok Out (runs T [.code b5_0, .inL (some 46) b5_0, .inB 2, .inB 1, .code k5_1, .inL (some 25) b5_2, .inB 0, .code k5_3] [(0, .lst false (m.map ceV)), (2, .int .u64 at_), (7, .bool true), (8, .int .i64 w), (10, .int .i64 n), (11, .int .u64 (ldS m w at_ (n / 8) : Nat)), (13, .int .i64 j), (36, .sref 1 22 4 0 4), (37, .int .i64 4), (38, .int .i64 i)] [(22, .row 1 [.int .i64 8, .int .i64 16, .int .i64 32, .int .i64 64])] 46) ⟨fun x => resV c5.res x = some (.bool true)⟩ := by
  have hp := pow64 (n := w.toNat) (by omega)
  have hpp := pow_pos' w.toNat
  intro k
  induction k with
  | zero =>
    intro j hj
    have : ¬ (j : Int) < (n : Int) / 8 := by omega
    simp (disch := first | omega | (simp only [List.length_append, List.length_map, List.length_cons, List.length_nil, List.length_replicate, List.length_drop, List.length_take]; omega) | (simp only [hget_c, Nat.reduceEqDiff, ↓reduceIte]; done) | assumption | (simp (disch := omega) only [hg_ne, hg_eq, hgs_ne, *]; done) | (simp only [LAWSm]; done) | with_unfolding_all rfl) only [unf b5_0.eq_1, unf k5_1.eq_1, c5, this, LAWSm, tdiv_nn, EV1, EV2, EV3, EV4, EV5, w_lp1, w_lp0, ca_0, ca_s, Nat.reduceAdd, Nat.reduceSub, Int.reduceToNat, Nat.reduceMul, Nat.reduceEqDiff, Nat.reduceLeDiff, Int.reduceEq, Int.reduceLT, Int.reduceLE, ↓reduceIte, List.length_cons, List.length_nil, List.getElem?_cons_zero, List.getElem?_cons_succ, if_true, if_false, Ck_pos, List.all_cons, List.all_nil, Bool.and_self, Bool.and_true, Bool.true_and, beq_self_eq_true, eq_self, Bool.not_true, Bool.not_false, decide_true, decide_false, and_self, true_and, and_true, List.drop_zero, List.drop_succ_cons, List.take_succ_cons, List.take_zero, List.take_nil, List.drop_nil, List.cons_append, List.nil_append, List.append_nil, Int.toNat_natCast, List.length_map, Nat.le_refl, Nat.zero_add, Nat.sub_zero, Nat.add_zero, take_full, List.replicate_succ, List.replicate_zero, List.set_cons_zero, List.set_cons_succ, Option.some.injEq, FV.bool.injEq, FV.int.injEq, most, deep, wrap64, wrapu64, wrapu8, wrapi8]
    exact Ok_inL (by decide) (by simp [lowTm, low, lows, LAWSm]) (by simp [cutH, lowHeap, lowObj, lows, low, LAWSm]) (next)
  | succ k ih =>
    intro j hj
    have : (j : Int) < (n : Int) / 8 := by omega
    have hA : addrS w at_ j = (at_ + j) % 18446744073709551616 % 2 ^ w.toNat := rfl
    have hA0 : 0 ≤ addrS w at_ j := by rw [hA]; exact Int.emod_nonneg _ (by omega)
    have hA1 : addrS w at_ j < 2 ^ w.toNat := by rw [hA]; exact Int.emod_lt_of_pos _ hpp
    have hAA : addrS w (addrS w at_ j) 0 = addrS w at_ j := by
      show (addrS w at_ j + (0 : Nat)) % 18446744073709551616 % 2 ^ w.toNat = _
      rw [Int.emod_eq_of_lt (by omega) (by omega), Int.emod_eq_of_lt (by omega) (by omega)]
      omega
    have hw1 : IntKind.u64.wrap j = j := by rw [wrapu (by omega)]; omega
    have hw2 : IntKind.u64.wrap (at_ + j) = (at_ + j) % 18446744073709551616 := wrapu (by omega)
    have hw3 : IntKind.u64.wrap (64 - w) = 64 - w := by rw [wrapu (by omega)]; omega
    have hsm := shr_mask (n := w.toNat) (by omega)
    rw [show ((w.toNat : Nat) : Int) = w by omega] at hsm
    have hm1 := band_mask (a := (at_ + j) % 18446744073709551616) (n := w.toNat) (by omega) (by omega) (by omega)
    have hl := load_spec false m w (addrS w at_ j) 8 hm (by omega) hA0 (by omega)
    have e1 : loadS m w (addrS w at_ j) 8 = .tup [.int .u64 (byteS m (addrS w at_ j)), .int .i64 0] := by
      have hb := byteS_bd hm (addrS w at_ j)
      have : ldS m w (addrS w at_ j) (8 / 8) = (byteS m (addrS w at_ j)).toNat := by
        simp [ldS, hAA]
      simp only [loadS, if_pos hs]
      rw [if_pos ⟨⟨hw, hw'⟩, by simp [loadsS]⟩, if_pos ⟨hw, hw', hA1⟩, this]
      congr 3; simp; omega
    rw [e1, hA] at hl
    simp only [Int.cast_ofNat_Int] at hl
    have hx := ldS_byte hm w at_ (n / 8) j (by omega)
    have hb := byteS_bd hm (addrS w at_ j)
    have hlt := ldS_lt hm w at_ (n / 8)
    have hp8 : (2 : Nat) ^ (8 * (n / 8)) ≤ 2 ^ 64 := Nat.pow_le_pow_right (by decide) (by omega)
    have hsh := shr_nat (a := (ldS m w at_ (n / 8) : Nat)) (n := 8 * j) (by omega) (by omega)
    simp only [Int.toNat_natCast, Int.natCast_mul, Int.cast_ofNat_Int] at hsh
    have hle : ldS m w at_ (n / 8) >>> (8 * j) ≤ ldS m w at_ (n / 8) := Nat.shiftRight_le _ _
    have hba := band_nat (a := (ldS m w at_ (n / 8) >>> (8 * j) : Nat)) (b := 255) (Int.natCast_nonneg _) (by omega) (by decide) (by decide)
    simp only [Int.toNat_natCast, Int.reduceToNat, hx] at hba
    have hw4 : IntKind.u64.wrap (8 * (j : Int)) = 8 * (j : Int) := by rw [wrapu (by omega)]; omega
    have hfin : (((byteS m (addrS w at_ j)).toNat : Nat) : Int) = byteS m (addrS w at_ j) := by omega
    rw [hfin] at hba
    rw [hA] at hba
    simp (disch := first | omega | (simp only [List.length_append, List.length_map, List.length_cons, List.length_nil, List.length_replicate, List.length_drop, List.length_take]; omega) | (simp only [hget_c, Nat.reduceEqDiff, ↓reduceIte]; done) | assumption | (simp (disch := omega) only [hg_ne, hg_eq, hgs_ne, *]; done) | (simp only [LAWSm]; done) | with_unfolding_all rfl) only [unf b5_0.eq_1, unf k5_1.eq_1, c5, this, LAWSm, tdiv_nn, hw1, hw2, hw3, hsm, hm1, hl, hw4, hsh, hba, EV1, EV2, EV3, EV4, EV5, w_lp1, w_lp0, ca_0, ca_s, Nat.reduceAdd, Nat.reduceSub, Int.reduceToNat, Nat.reduceMul, Nat.reduceEqDiff, Nat.reduceLeDiff, Int.reduceEq, Int.reduceLT, Int.reduceLE, ↓reduceIte, List.length_cons, List.length_nil, List.getElem?_cons_zero, List.getElem?_cons_succ, if_true, if_false, Ck_pos, List.all_cons, List.all_nil, Bool.and_self, Bool.and_true, Bool.true_and, beq_self_eq_true, eq_self, Bool.not_true, Bool.not_false, decide_true, decide_false, and_self, true_and, and_true, List.drop_zero, List.drop_succ_cons, List.take_succ_cons, List.take_zero, List.take_nil, List.drop_nil, List.cons_append, List.nil_append, List.append_nil, Int.toNat_natCast, List.length_map, Nat.le_refl, Nat.zero_add, Nat.sub_zero, Nat.add_zero, take_full, List.replicate_succ, List.replicate_zero, List.set_cons_zero, List.set_cons_succ, Option.some.injEq, FV.bool.injEq, FV.int.injEq, most, deep, wrap64, wrapu64, wrapu8, wrapi8]
    exact Ok_inL (by decide) (by simp [lowTm, low, lows, LAWSm]) (by simp [cutH, lowHeap, lowObj, lows, low, LAWSm]) (ih (j + 1) (by omega))
theorem bytes_out (m : Mem) (hm : okM m) (h0 : m.length ≤ 4200) (w at_ : Int) (hw : 1 ≤ w) (hw' : w ≤ 64) (ha : 0 ≤ at_) (ha' : at_ < 2 ^ w.toNat) : ∀ (k i : Nat), i + k = 4 →
    @Ok Out (runs T [.code b5_2, .inL (some 25) b5_2, .inB 0, .code k5_3] [(0, .lst false (m.map ceV)), (2, .int .u64 at_), (7, .bool true), (8, .int .i64 w), (36, .sref 1 22 4 0 4), (37, .int .i64 4), (38, .int .i64 i)] [(22, .row 1 [.int .i64 8, .int .i64 16, .int .i64 32, .int .i64 64])] 25) ⟨fun x => resV c5.res x = some (.bool true)⟩ := by
  have hp := pow64 (n := w.toNat) (by omega)
  intro k
  induction k with
  | zero =>
    intro i hi
    have : ¬ (i : Int) < 4 := by omega
    simp (disch := first | omega | (simp only [List.length_append, List.length_map, List.length_cons, List.length_nil, List.length_replicate, List.length_drop, List.length_take]; omega) | (simp only [hget_c, Nat.reduceEqDiff, ↓reduceIte]; done) | assumption | (simp (disch := omega) only [hg_ne, hg_eq, hgs_ne, *]; done) | (simp only [LAWSm]; done) | with_unfolding_all rfl) only [unf b5_2.eq_1, unf k5_3.eq_1, c5, this, LAWSm, EV1, EV2, EV3, EV4, EV5, w_lp1, w_lp0, ca_0, ca_s, Nat.reduceAdd, Nat.reduceSub, Int.reduceToNat, Nat.reduceMul, Nat.reduceEqDiff, Nat.reduceLeDiff, Int.reduceEq, Int.reduceLT, Int.reduceLE, ↓reduceIte, List.length_cons, List.length_nil, List.getElem?_cons_zero, List.getElem?_cons_succ, if_true, if_false, Ck_pos, List.all_cons, List.all_nil, Bool.and_self, Bool.and_true, Bool.true_and, beq_self_eq_true, eq_self, Bool.not_true, Bool.not_false, decide_true, decide_false, and_self, true_and, and_true, List.drop_zero, List.drop_succ_cons, List.take_succ_cons, List.take_zero, List.take_nil, List.drop_nil, List.cons_append, List.nil_append, List.append_nil, Int.toNat_natCast, List.length_map, Nat.le_refl, Nat.zero_add, Nat.sub_zero, Nat.add_zero, take_full, List.replicate_succ, List.replicate_zero, List.set_cons_zero, List.set_cons_succ, Option.some.injEq, FV.bool.injEq, FV.int.injEq, most, deep, wrap64, wrapu64, wrapu8, wrapi8]
  | succ k ih =>
    intro i hi
    have : (i : Int) < 4 := by omega
    obtain ⟨n, hn, hn8⟩ : ∃ n : Nat, ([.int .i64 8, .int .i64 16, .int .i64 32, .int .i64 64] : List FV)[i]? = some (.int .i64 n) ∧ (n = 8 ∨ n = 16 ∨ n = 32 ∨ n = 64) := by
      match i, hi with
      | 0, _ => exact ⟨8, rfl, by omega⟩
      | 1, _ => exact ⟨16, rfl, by omega⟩
      | 2, _ => exact ⟨32, rfl, by omega⟩
      | 3, _ => exact ⟨64, rfl, by omega⟩
    have c1 := checkCells_spec false m (by omega)
    have hl := load_spec false m w at_ n hm (by omega) ha (by omega)
    by_cases hs : memS m
    · have e1 : loadS m w at_ n = .tup [.int .u64 (ldS m w at_ (n / 8) : Nat), .int .i64 0] := by
        simp only [loadS, if_pos hs]
        rw [if_pos ⟨⟨hw, hw'⟩, by unfold loadsS; omega⟩, if_pos ⟨hw, hw', ha'⟩]
      have e2 : chkM m = 0 := if_pos hs
      rw [e1] at hl
      rw [e2] at c1
      simp (disch := first | omega | (simp only [List.length_append, List.length_map, List.length_cons, List.length_nil, List.length_replicate, List.length_drop, List.length_take]; omega) | (simp only [hget_c, Nat.reduceEqDiff, ↓reduceIte]; done) | assumption | (simp (disch := omega) only [hg_ne, hg_eq, hgs_ne, *]; done) | (simp only [LAWSm]; done) | with_unfolding_all rfl) only [unf b5_2.eq_1, c5, this, LAWSm, hn, hl, c1, EV1, EV2, EV3, EV4, EV5, w_lp1, w_lp0, ca_0, ca_s, Nat.reduceAdd, Nat.reduceSub, Int.reduceToNat, Nat.reduceMul, Nat.reduceEqDiff, Nat.reduceLeDiff, Int.reduceEq, Int.reduceLT, Int.reduceLE, ↓reduceIte, List.length_cons, List.length_nil, List.getElem?_cons_zero, List.getElem?_cons_succ, if_true, if_false, Ck_pos, List.all_cons, List.all_nil, Bool.and_self, Bool.and_true, Bool.true_and, beq_self_eq_true, eq_self, Bool.not_true, Bool.not_false, decide_true, decide_false, and_self, true_and, and_true, List.drop_zero, List.drop_succ_cons, List.take_succ_cons, List.take_zero, List.take_nil, List.drop_nil, List.cons_append, List.nil_append, List.append_nil, Int.toNat_natCast, List.length_map, Nat.le_refl, Nat.zero_add, Nat.sub_zero, Nat.add_zero, take_full, List.replicate_succ, List.replicate_zero, List.set_cons_zero, List.set_cons_succ, Option.some.injEq, FV.bool.injEq, FV.int.injEq, most, deep, wrap64, wrapu64, wrapu8, wrapi8]
      exact bytes_in m hm h0 hs w at_ hw hw' ha ha' i n (by omega) (by omega) (by omega) (ih (i + 1) (by omega)) (n / 8) 0 (by omega)
    · have e1 : loadS m w at_ n = .tup [.int .u64 0, .int .i64 8] := by
        simp only [loadS, if_neg hs]
      have e2 : chkM m = 8 := if_neg hs
      rw [e1] at hl
      rw [e2] at c1
      simp (disch := first | omega | (simp only [List.length_append, List.length_map, List.length_cons, List.length_nil, List.length_replicate, List.length_drop, List.length_take]; omega) | (simp only [hget_c, Nat.reduceEqDiff, ↓reduceIte]; done) | assumption | (simp (disch := omega) only [hg_ne, hg_eq, hgs_ne, *]; done) | (simp only [LAWSm]; done) | with_unfolding_all rfl) only [unf b5_2.eq_1, unf k5_1.eq_1, c5, this, LAWSm, hn, hl, c1, EV1, EV2, EV3, EV4, EV5, w_lp1, w_lp0, ca_0, ca_s, Nat.reduceAdd, Nat.reduceSub, Int.reduceToNat, Nat.reduceMul, Nat.reduceEqDiff, Nat.reduceLeDiff, Int.reduceEq, Int.reduceLT, Int.reduceLE, ↓reduceIte, List.length_cons, List.length_nil, List.getElem?_cons_zero, List.getElem?_cons_succ, if_true, if_false, Ck_pos, List.all_cons, List.all_nil, Bool.and_self, Bool.and_true, Bool.true_and, beq_self_eq_true, eq_self, Bool.not_true, Bool.not_false, decide_true, decide_false, and_self, true_and, and_true, List.drop_zero, List.drop_succ_cons, List.take_succ_cons, List.take_zero, List.take_nil, List.drop_nil, List.cons_append, List.nil_append, List.append_nil, Int.toNat_natCast, List.length_map, Nat.le_refl, Nat.zero_add, Nat.sub_zero, Nat.add_zero, take_full, List.replicate_succ, List.replicate_zero, List.set_cons_zero, List.set_cons_succ, Option.some.injEq, FV.bool.injEq, FV.int.injEq, most, deep, wrap64, wrapu64, wrapu8, wrapi8]
      exact Ok_inL (by decide) (by simp [lowTm, low, lows, LAWSm]) (by simp [cutH, lowHeap, lowObj, lows, low, LAWSm]) (ih (i + 1) (by omega))
theorem bytes_spec (m : Mem) (hm : okM m) (h0 : m.length ≤ 9223372036854775807) (a at_ : Int) (hw : 0 ≤ a) (hw' : a < 256) (ha : 0 ≤ at_) (ha' : at_ < 18446744073709551616) : ∀ h nx, lim T 5 [.lst false (m.map ceV), .int .u8 a, .int .u64 at_] h nx = some (.bool true, h, nx) := by
  refine lim_iso tg5 rfl rfl (by simp [pures, pure_, pu_m]) ?_
  obtain ⟨w, hww⟩ : ∃ w, w = a % 64 + 1 := ⟨_, rfl⟩
  have hw3 : IntKind.u64.wrap (64 - w) = 64 - w := by rw [wrapu (by omega)]; omega
  have hsm := shr_mask (n := w.toNat) (by omega)
  rw [show ((w.toNat : Nat) : Int) = w by omega] at hsm
  have hm1 := band_mask (a := at_) (n := w.toNat) (by omega) (by omega) (by omega)
  have hpp := pow_pos' w.toNat
  simp (disch := first | omega | (simp only [List.length_append, List.length_map, List.length_cons, List.length_nil, List.length_replicate, List.length_drop, List.length_take]; omega) | (simp only [hget_c, Nat.reduceEqDiff, ↓reduceIte]; done) | assumption | (simp (disch := omega) only [hg_ne, hg_eq, hgs_ne, *]; done) | (simp only [LAWSm]; done) | with_unfolding_all rfl) only [c5, LAWSm, alive_iso, tmod_nn, hww.symm, hw3, hsm, hm1, EV1, EV2, EV3, EV4, EV5, w_lp1, w_lp0, ca_0, ca_s, Nat.reduceAdd, Nat.reduceSub, Int.reduceToNat, Nat.reduceMul, Nat.reduceEqDiff, Nat.reduceLeDiff, Int.reduceEq, Int.reduceLT, Int.reduceLE, ↓reduceIte, List.length_cons, List.length_nil, List.getElem?_cons_zero, List.getElem?_cons_succ, if_true, if_false, Ck_pos, List.all_cons, List.all_nil, Bool.and_self, Bool.and_true, Bool.true_and, beq_self_eq_true, eq_self, Bool.not_true, Bool.not_false, decide_true, decide_false, and_self, true_and, and_true, List.drop_zero, List.drop_succ_cons, List.take_succ_cons, List.take_zero, List.take_nil, List.drop_nil, List.cons_append, List.nil_append, List.append_nil, Int.toNat_natCast, List.length_map, Nat.le_refl, Nat.zero_add, Nat.sub_zero, Nat.add_zero, take_full, List.replicate_succ, List.replicate_zero, List.set_cons_zero, List.set_cons_succ, Option.some.injEq, FV.bool.injEq, FV.int.injEq, most, deep, wrap64, wrapu64, wrapu8, wrapi8]
  repeat' (refine Ok_if (fun hb => ?_) (fun hb => ?_) <;> have h := hb <;> (try simp only [decide_eq_true_eq, decide_eq_false_iff_not, Int.not_lt, Int.not_le] at h) <;> (simp (disch := first | omega | (simp only [List.length_append, List.length_map, List.length_cons, List.length_nil, List.length_replicate, List.length_drop, List.length_take]; omega) | (simp only [hget_c, Nat.reduceEqDiff, ↓reduceIte]; done) | assumption | (simp (disch := omega) only [hg_ne, hg_eq, hgs_ne, *]; done) | (simp only [LAWSm]; done) | with_unfolding_all rfl) only [hb, c5, LAWSm, alive_iso, tmod_nn, hww.symm, hw3, hsm, hm1, EV1, EV2, EV3, EV4, EV5, w_lp1, w_lp0, ca_0, ca_s, Nat.reduceAdd, Nat.reduceSub, Int.reduceToNat, Nat.reduceMul, Nat.reduceEqDiff, Nat.reduceLeDiff, Int.reduceEq, Int.reduceLT, Int.reduceLE, ↓reduceIte, List.length_cons, List.length_nil, List.getElem?_cons_zero, List.getElem?_cons_succ, if_true, if_false, Ck_pos, List.all_cons, List.all_nil, Bool.and_self, Bool.and_true, Bool.true_and, beq_self_eq_true, eq_self, Bool.not_true, Bool.not_false, decide_true, decide_false, and_self, true_and, and_true, List.drop_zero, List.drop_succ_cons, List.take_succ_cons, List.take_zero, List.take_nil, List.drop_nil, List.cons_append, List.nil_append, List.append_nil, Int.toNat_natCast, List.length_map, Nat.le_refl, Nat.zero_add, Nat.sub_zero, Nat.add_zero, take_full, List.replicate_succ, List.replicate_zero, List.set_cons_zero, List.set_cons_succ, Option.some.injEq, FV.bool.injEq, FV.int.injEq, most, deep, wrap64, wrapu64, wrapu8, wrapi8]) <;> (try clear hb))
  exact bytes_out m hm (by omega) w _ (by omega) (by omega) (Int.emod_nonneg _ (by omega)) (Int.emod_lt_of_pos _ hpp) 4 0 (by omega)
end Go.Proofs.YtkobnfjeehnhlaaGreatDoor.Fi

