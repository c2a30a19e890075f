/- Parts of the proof, after each other. -/
import Derived.Test.YtkobnfjeehnhlaaDoorP3
set_option linter.all false
set_option linter.unusedSimpArgs false
set_option linter.unusedVariables false
set_option linter.unusedSectionVars false
namespace Go.Proofs.YtkobnfjeehnhlaaDoor.Fi
open Go.FI

/-! The reference's Subst, whole. -/
def SubQ (t u : Te) (n : List UInt8) (v : FV) : Prop := ∃ a : Te, v = .tup [.agg [.int .u8 (a).k, .int .i64 (a).w, .int .u64 (a).b, .str (a).s, .int .i64 (a).lo, .lst (a).e ((a).l.map tV)], .int .i64 (substE t u n)] ∧ er a = er (substT t u n)
def cntN (n : List UInt8) : Env0 → Nat
  | [] => 0
  | p :: L => (if p.1 = n then 1 else 0) + cntN n L
theorem cnt_occ (n : List UInt8) : ∀ xs : List Te, cntN n (varL xs) = occ n xs := by
  intro xs
  induction xs with
  | nil => rfl
  | cons x xs ih =>
    simp only [varL, occ]
    by_cases hk : x.k = 2
    · simp only [hk, if_true, cntN, ih, true_and]
    · simp only [hk, if_false, false_and, ih, Nat.zero_add]
theorem cnt_le (n : List UInt8) : ∀ L : Env0, cntN n L ≤ L.length := by
  intro L
  induction L with
  | nil => exact Nat.le_refl _
  | cons p L ih => simp only [cntN, List.length_cons]; split <;> omega
theorem cnt_drop (n : List UInt8) {L : Env0} {i : Nat} (h : i < L.length) : cntN n (L.drop i) = (if (L.getD i ([], 0)).1 = n then 1 else 0) + cntN n (L.drop (i + 1)) := by
  rw [List.drop_eq_getElem_cons h]; simp [cntN, List.getD, h]
theorem zero_sub {t u : Te} {n : List UInt8} {e : Int} (hE : substE t u n = e) (hne : e ≠ 0) : SubQ t u n (.tup [.agg [.int .u8 0, .int .i64 0, .int .u64 0, .str [], .int .i64 0, .lst true []], .int .i64 e]) := by
  refine ⟨zT, by rw [hE]; rfl, ?_⟩
  unfold substT; rw [hE, if_neg hne]
theorem TOk_iff (t : Te) : TOk t ↔ nodeT t ∧ ∀ x ∈ t.l, TOk x := all_nodes
theorem nodeT_er (x : Te) : nodeT (er x) ↔ nodeT x := by unfold nodeT; rw [er_k, er_w, er_b, er_s, er_lo, er_l, List.length_map]
theorem TOk_of_er {a b : Te} (e : er a = er b) (h : TOk a) : TOk b := fun x hx => by
  have h1 : er x ∈ nodesT (er b) := by rw [nodes_er]; exact List.mem_map_of_mem hx
  rw [← e, nodes_er] at h1
  obtain ⟨y, hy, hye⟩ := List.mem_map.1 h1
  rw [← nodeT_er, ← hye, nodeT_er]
  exact h y hy
theorem TOk_put (n : List UInt8) {u : Te} (hu : TOk u) (t : Te) (ht : TOk t) : TOk (putT n u t) := by
  induction t using Tm'.ind with | h t ih =>
  rw [putT_eq]
  split
  · exact hu
  · rw [TOk_iff]
    obtain ⟨h1, h2⟩ := (TOk_iff t).1 ht
    refine ⟨?_, fun x hx => ?_⟩
    · obtain ⟨a, b, c, d, e, f⟩ := h1
      exact ⟨a, b, c, d, e, by show (t.l.map (putT n u)).length ≤ _; rw [List.length_map]; exact f⟩
    · obtain ⟨y, hy, rfl⟩ := List.mem_map.1 hx
      exact ih y hy (h2 y hy)
theorem rSubst_end (t u : Te) (n : List UInt8) (ht : size t ≤ 400) (hu : size u ≤ 400) (e1 : checkS t = 0) (e2 : checkS u = 0) (hno : nodesOk t) (tt : TOk t) (tu : TOk u) (hnv : ¬ ∃ w, (n, w) ∈ varList t ∧ w ≠ u.w) (i m : Nat) (hm : m = occ n (nodesT t)) (L : Env0) :
    @Ok Out (runs T [.code k9_1] [(1, .str n), (3, .ptr 0 1 0 0), (5, .ptr 1 1 0 0), (6, .ptr 2 1 0 0), (8, .lst false (L.map bd0)), (9, .int .i64 m), (10, .int .i64 i), (29, .bool false)] [(2, .row 6 [.agg [.int .u8 0, .int .i64 0, .int .u64 0, .str [], .int .i64 0, .lst true []]]), (1, .row 6 [.agg [.int .u8 (u).k, .int .i64 (u).w, .int .u64 (u).b, .str (u).s, .int .i64 (u).lo, .lst (u).e ((u).l.map tV)]]), (0, .row 6 [.agg [.int .u8 (t).k, .int .i64 (t).w, .int .u64 (t).b, .str (t).s, .int .i64 (t).lo, .lst (t).e ((t).l.map tV)]])] 19) ⟨fun x => @Ok FV (resV c9.res x) ⟨SubQ t u n⟩⟩ := by
  have c1 := rSize_spec t (by omega)
  have c2 := rSize_spec u (by omega)
  obtain ⟨v, ⟨p, rfl, hp⟩, hx⟩ := rPut_spec n u t (by omega) (by omega)
  have hocc := occ_le n (nodesT t)
  rw [nodesT_len] at hocc
  have hup := size_pos u
  have hsp := size_putT n u t (leaf_ok hno)
  have hmm : (m : Int) * ((size u : Int) - 1) = ((occ n (nodesT t) * (size u - 1) : Nat) : Int) := by
    rw [hm, Int.natCast_mul, Int.natCast_sub hup]; rfl
  have hmb : occ n (nodesT t) * (size u - 1) ≤ 400 * 400 := Nat.mul_le_mul (by omega) (by omega)
  by_cases hbig : 400 < size t + occ n (nodesT t) * (size u - 1)
  · have hE : substE t u n = 4 := by unfold substE; rw [if_neg (by simp [e1]), if_neg (by simp [e2]), if_neg hnv, if_pos hbig]
    have hb : (400 : Int) < (size t : Int) + ((occ n (nodesT t) * (size u - 1) : Nat) : Int) := by omega
    simp (disch := first | omega | (simp only [List.length_append, List.length_map, List.length_cons, List.length_nil, List.length_replicate, List.length_drop, List.length_take]; omega) | (simp only [hget_c, Nat.reduceEqDiff, ↓reduceIte]; done) | assumption | (simp (disch := omega) only [hg_ne, hg_eq, hgs_ne, *]; done) | (simp only [LAWSb]; done) | with_unfolding_all rfl) only [unf k9_1.eq_1, c9, LAWSb, c1, c2, hmm, hb, EV1, EV2, EV3, EV4, EV5, EV6, List.map_cons, List.map_nil, w_lp1, w_lp0, ca_0, ca_s, Nat.reduceAdd, Nat.reduceSub, Int.reduceToNat, Nat.reduceMul, Nat.reduceEqDiff, Nat.reduceLeDiff, Int.reduceEq, Int.reduceLT, Int.reduceLE, ↓reduceIte, List.length_cons, List.length_nil, List.getElem?_cons_zero, List.getElem?_cons_succ, if_true, if_false, Ck_pos, List.all_cons, List.all_nil, Bool.and_self, Bool.and_true, Bool.true_and, beq_self_eq_true, eq_self, Bool.not_true, Bool.not_false, decide_true, decide_false, and_self, true_and, and_true, List.drop_zero, List.drop_succ_cons, List.take_succ_cons, List.take_zero, List.take_nil, List.drop_nil, List.cons_append, List.nil_append, List.append_nil, Int.toNat_natCast, List.length_map, Nat.le_refl, Nat.zero_add, Nat.sub_zero, Nat.add_zero, take_full, List.replicate_succ, List.replicate_zero, List.set_cons_zero, List.set_cons_succ, Option.some.injEq, FV.bool.injEq, FV.int.injEq, most, deep, wrap64, wrapu64, wrapu8, wrapi8]
    exact zero_sub hE (by decide)
  · have hE : substE t u n = checkS (putT n u t) := by unfold substE; rw [if_neg (by simp [e1]), if_neg (by simp [e2]), if_neg hnv, if_neg hbig]
    have hb : ¬ (400 : Int) < (size t : Int) + ((occ n (nodesT t) * (size u - 1) : Nat) : Int) := by omega
    have szp : size p ≤ 1000000 := by rw [← size_er, hp, size_er, hsp]; omega
    have c3 : ∀ h nx, lim T 15 [.agg [.int .u8 (p).k, .int .i64 (p).w, .int .u64 (p).b, .str (p).s, .int .i64 (p).lo, .lst (p).e ((p).l.map tV)]] h nx = some (.int .i64 (checkS p), h, nx) := rCheck_spec p (TOk_of_er hp.symm (TOk_put n tu t tt)) szp
    rw [checkS_of_er hp] at c3
    by_cases e3 : checkS (putT n u t) = 0
    · rw [e3] at c3
      simp (disch := first | omega | (simp only [List.length_append, List.length_map, List.length_cons, List.length_nil, List.length_replicate, List.length_drop, List.length_take]; omega) | (simp only [hget_c, Nat.reduceEqDiff, ↓reduceIte]; done) | assumption | (simp (disch := omega) only [hg_ne, hg_eq, hgs_ne, *]; done) | (simp only [LAWSb]; done) | with_unfolding_all rfl) only [unf k9_1.eq_1, c9, LAWSb, c1, c2, hmm, hb, hx, c3, EV1, EV2, EV3, EV4, EV5, EV6, List.map_cons, List.map_nil, w_lp1, w_lp0, ca_0, ca_s, Nat.reduceAdd, Nat.reduceSub, Int.reduceToNat, Nat.reduceMul, Nat.reduceEqDiff, Nat.reduceLeDiff, Int.reduceEq, Int.reduceLT, Int.reduceLE, ↓reduceIte, List.length_cons, List.length_nil, List.getElem?_cons_zero, List.getElem?_cons_succ, if_true, if_false, Ck_pos, List.all_cons, List.all_nil, Bool.and_self, Bool.and_true, Bool.true_and, beq_self_eq_true, eq_self, Bool.not_true, Bool.not_false, decide_true, decide_false, and_self, true_and, and_true, List.drop_zero, List.drop_succ_cons, List.take_succ_cons, List.take_zero, List.take_nil, List.drop_nil, List.cons_append, List.nil_append, List.append_nil, Int.toNat_natCast, List.length_map, Nat.le_refl, Nat.zero_add, Nat.sub_zero, Nat.add_zero, take_full, List.replicate_succ, List.replicate_zero, List.set_cons_zero, List.set_cons_succ, Option.some.injEq, FV.bool.injEq, FV.int.injEq, most, deep, wrap64, wrapu64, wrapu8, wrapi8]
      refine ⟨p, by rw [hE, e3], ?_⟩
      unfold substT; rw [hE, if_pos e3, hp]
    · simp (disch := first | omega | (simp only [List.length_append, List.length_map, List.length_cons, List.length_nil, List.length_replicate, List.length_drop, List.length_take]; omega) | (simp only [hget_c, Nat.reduceEqDiff, ↓reduceIte]; done) | assumption | (simp (disch := omega) only [hg_ne, hg_eq, hgs_ne, *]; done) | (simp only [LAWSb]; done) | with_unfolding_all rfl) only [unf k9_1.eq_1, c9, LAWSb, c1, c2, hmm, hb, hx, c3, e3, EV1, EV2, EV3, EV4, EV5, EV6, List.map_cons, List.map_nil, w_lp1, w_lp0, ca_0, ca_s, Nat.reduceAdd, Nat.reduceSub, Int.reduceToNat, Nat.reduceMul, Nat.reduceEqDiff, Nat.reduceLeDiff, Int.reduceEq, Int.reduceLT, Int.reduceLE, ↓reduceIte, List.length_cons, List.length_nil, List.getElem?_cons_zero, List.getElem?_cons_succ, if_true, if_false, Ck_pos, List.all_cons, List.all_nil, Bool.and_self, Bool.and_true, Bool.true_and, beq_self_eq_true, eq_self, Bool.not_true, Bool.not_false, decide_true, decide_false, and_self, true_and, and_true, List.drop_zero, List.drop_succ_cons, List.take_succ_cons, List.take_zero, List.take_nil, List.drop_nil, List.cons_append, List.nil_append, List.append_nil, Int.toNat_natCast, List.length_map, Nat.le_refl, Nat.zero_add, Nat.sub_zero, Nat.add_zero, take_full, List.replicate_succ, List.replicate_zero, List.set_cons_zero, List.set_cons_succ, Option.some.injEq, FV.bool.injEq, FV.int.injEq, most, deep, wrap64, wrapu64, wrapu8, wrapi8]
      exact zero_sub hE e3
theorem rSubst_loop (t u : Te) (n : List UInt8) (ht : size t ≤ 400) (hu : size u ≤ 400) (e1 : checkS t = 0) (e2 : checkS u = 0) (hno : nodesOk t) (tt : TOk t) (tu : TOk u) (L : Env0) (hL : L = varList t) (hl : L.length ≤ 1000000) : ∀ (k i m : Nat), i + k = L.length → m + cntN n (L.drop i) = occ n (nodesT t) → (∀ j, j < i → (L.getD j ([], 0)).1 = n → (L.getD j ([], 0)).2 = u.w) →
    @Ok Out (runs T [.code b9_0, .inL (some 15) b9_0, .inB 0, .code k9_1] [(1, .str n), (3, .ptr 0 1 0 0), (5, .ptr 1 1 0 0), (6, .ptr 2 1 0 0), (8, .lst false (L.map bd0)), (9, .int .i64 m), (10, .int .i64 i)] [(2, .row 6 [.agg [.int .u8 0, .int .i64 0, .int .u64 0, .str [], .int .i64 0, .lst true []]]), (1, .row 6 [.agg [.int .u8 (u).k, .int .i64 (u).w, .int .u64 (u).b, .str (u).s, .int .i64 (u).lo, .lst (u).e ((u).l.map tV)]]), (0, .row 6 [.agg [.int .u8 (t).k, .int .i64 (t).w, .int .u64 (t).b, .str (t).s, .int .i64 (t).lo, .lst (t).e ((t).l.map tV)]])] 15) ⟨fun x => @Ok FV (resV c9.res x) ⟨SubQ t u n⟩⟩ := by
  have hocc := occ_le n (nodesT t)
  rw [nodesT_len] at hocc
  intro k
  induction k with
  | zero =>
    intro i m hi hm hok
    have : ¬ (i : Int) < L.length := by omega
    rw [List.drop_eq_nil_of_le (by omega)] at hm
    have hm : m = occ n (nodesT t) := by simpa [cntN] using hm
    have hnv : ¬ ∃ w, (n, w) ∈ varList t ∧ w ≠ u.w := by
      rintro ⟨w, hw, hne⟩
      rw [← hL] at hw
      obtain ⟨j, hj, e⟩ := List.mem_iff_getElem.1 hw
      have := hok j (by omega)
      simp [List.getD, hj, e] at this
      exact hne this
    simp (disch := first | omega | (simp only [List.length_append, List.length_map, List.length_cons, List.length_nil, List.length_replicate, List.length_drop, List.length_take]; omega) | (simp only [hget_c, Nat.reduceEqDiff, ↓reduceIte]; done) | assumption | (simp (disch := omega) only [hg_ne, hg_eq, hgs_ne, *]; done) | (simp only [LAWSb]; done) | with_unfolding_all rfl) only [unf b9_0.eq_1, c9, this, LAWSb, EV1, EV2, EV3, EV4, EV5, EV6, List.map_cons, List.map_nil, w_lp1, w_lp0, ca_0, ca_s, Nat.reduceAdd, Nat.reduceSub, Int.reduceToNat, Nat.reduceMul, Nat.reduceEqDiff, Nat.reduceLeDiff, Int.reduceEq, Int.reduceLT, Int.reduceLE, ↓reduceIte, List.length_cons, List.length_nil, List.getElem?_cons_zero, List.getElem?_cons_succ, if_true, if_false, Ck_pos, List.all_cons, List.all_nil, Bool.and_self, Bool.and_true, Bool.true_and, beq_self_eq_true, eq_self, Bool.not_true, Bool.not_false, decide_true, decide_false, and_self, true_and, and_true, List.drop_zero, List.drop_succ_cons, List.take_succ_cons, List.take_zero, List.take_nil, List.drop_nil, List.cons_append, List.nil_append, List.append_nil, Int.toNat_natCast, List.length_map, Nat.le_refl, Nat.zero_add, Nat.sub_zero, Nat.add_zero, take_full, List.replicate_succ, List.replicate_zero, List.set_cons_zero, List.set_cons_succ, Option.some.injEq, FV.bool.injEq, FV.int.injEq, most, deep, wrap64, wrapu64, wrapu8, wrapi8]
    exact rSubst_end t u n ht hu e1 e2 hno tt tu hnv i m hm L
  | succ k ih =>
    intro i m hi hm hok
    have : (i : Int) < L.length := by omega
    rw [cnt_drop n (show i < L.length by omega)] at hm
    by_cases h1 : (L.getD i ([], 0)).1 = n
    · by_cases h2 : (L.getD i ([], 0)).2 = u.w
      · rw [if_pos h1] at hm
        simp (disch := first | omega | (simp only [List.length_append, List.length_map, List.length_cons, List.length_nil, List.length_replicate, List.length_drop, List.length_take]; omega) | (simp only [hget_c, Nat.reduceEqDiff, ↓reduceIte]; done) | assumption | (simp (disch := omega) only [hg_ne, hg_eq, hgs_ne, *]; done) | (simp only [LAWSb]; done) | with_unfolding_all rfl) only [unf b9_0.eq_1, c9, this, LAWSb, h1, h2, EV1, EV2, EV3, EV4, EV5, EV6, List.map_cons, List.map_nil, w_lp1, w_lp0, ca_0, ca_s, Nat.reduceAdd, Nat.reduceSub, Int.reduceToNat, Nat.reduceMul, Nat.reduceEqDiff, Nat.reduceLeDiff, Int.reduceEq, Int.reduceLT, Int.reduceLE, ↓reduceIte, List.length_cons, List.length_nil, List.getElem?_cons_zero, List.getElem?_cons_succ, if_true, if_false, Ck_pos, List.all_cons, List.all_nil, Bool.and_self, Bool.and_true, Bool.true_and, beq_self_eq_true, eq_self, Bool.not_true, Bool.not_false, decide_true, decide_false, and_self, true_and, and_true, List.drop_zero, List.drop_succ_cons, List.take_succ_cons, List.take_zero, List.take_nil, List.drop_nil, List.cons_append, List.nil_append, List.append_nil, Int.toNat_natCast, List.length_map, Nat.le_refl, Nat.zero_add, Nat.sub_zero, Nat.add_zero, take_full, List.replicate_succ, List.replicate_zero, List.set_cons_zero, List.set_cons_succ, Option.some.injEq, FV.bool.injEq, FV.int.injEq, most, deep, wrap64, wrapu64, wrapu8, wrapi8]
        exact Ok_inL (by decide) (by simp [lowTm, low, lows, LAWSb]) (by simp [cutH, lowHeap, lowObj, lows, low, LAWSb]) (ih (i + 1) (m + 1) (by omega) (by omega) (fun j hj e => by
          by_cases hji : j = i
          · subst hji; exact h2
          · exact hok j (by omega) e))
      · simp (disch := first | omega | (simp only [List.length_append, List.length_map, List.length_cons, List.length_nil, List.length_replicate, List.length_drop, List.length_take]; omega) | (simp only [hget_c, Nat.reduceEqDiff, ↓reduceIte]; done) | assumption | (simp (disch := omega) only [hg_ne, hg_eq, hgs_ne, *]; done) | (simp only [LAWSb]; done) | with_unfolding_all rfl) only [unf b9_0.eq_1, c9, this, LAWSb, h1, h2, EV1, EV2, EV3, EV4, EV5, EV6, List.map_cons, List.map_nil, w_lp1, w_lp0, ca_0, ca_s, Nat.reduceAdd, Nat.reduceSub, Int.reduceToNat, Nat.reduceMul, Nat.reduceEqDiff, Nat.reduceLeDiff, Int.reduceEq, Int.reduceLT, Int.reduceLE, ↓reduceIte, List.length_cons, List.length_nil, List.getElem?_cons_zero, List.getElem?_cons_succ, if_true, if_false, Ck_pos, List.all_cons, List.all_nil, Bool.and_self, Bool.and_true, Bool.true_and, beq_self_eq_true, eq_self, Bool.not_true, Bool.not_false, decide_true, decide_false, and_self, true_and, and_true, List.drop_zero, List.drop_succ_cons, List.take_succ_cons, List.take_zero, List.take_nil, List.drop_nil, List.cons_append, List.nil_append, List.append_nil, Int.toNat_natCast, List.length_map, Nat.le_refl, Nat.zero_add, Nat.sub_zero, Nat.add_zero, take_full, List.replicate_succ, List.replicate_zero, List.set_cons_zero, List.set_cons_succ, Option.some.injEq, FV.bool.injEq, FV.int.injEq, most, deep, wrap64, wrapu64, wrapu8, wrapi8]
        have hmem : (n, (L.getD i ([], 0)).2) ∈ varList t := by
          rw [← hL, ← h1]; exact getD_mem (d := (([], 0) : List UInt8 × Int)) (by omega)
        exact zero_sub (e := 14) (by unfold substE; rw [if_neg (by simp [e1]), if_neg (by simp [e2]), if_pos ⟨_, hmem, h2⟩]) (by decide)
    · rw [if_neg h1] at hm
      have h1' : ((L.getD i ([], 0)).1 == n) = false := by simpa using h1
      simp (disch := first | omega | (simp only [List.length_append, List.length_map, List.length_cons, List.length_nil, List.length_replicate, List.length_drop, List.length_take]; omega) | (simp only [hget_c, Nat.reduceEqDiff, ↓reduceIte]; done) | assumption | (simp (disch := omega) only [hg_ne, hg_eq, hgs_ne, *]; done) | (simp only [LAWSb]; done) | with_unfolding_all rfl) only [unf b9_0.eq_1, c9, this, LAWSb, h1', EV1, EV2, EV3, EV4, EV5, EV6, List.map_cons, List.map_nil, w_lp1, w_lp0, ca_0, ca_s, Nat.reduceAdd, Nat.reduceSub, Int.reduceToNat, Nat.reduceMul, Nat.reduceEqDiff, Nat.reduceLeDiff, Int.reduceEq, Int.reduceLT, Int.reduceLE, ↓reduceIte, List.length_cons, List.length_nil, List.getElem?_cons_zero, List.getElem?_cons_succ, if_true, if_false, Ck_pos, List.all_cons, List.all_nil, Bool.and_self, Bool.and_true, Bool.true_and, beq_self_eq_true, eq_self, Bool.not_true, Bool.not_false, decide_true, decide_false, and_self, true_and, and_true, List.drop_zero, List.drop_succ_cons, List.take_succ_cons, List.take_zero, List.take_nil, List.drop_nil, List.cons_append, List.nil_append, List.append_nil, Int.toNat_natCast, List.length_map, Nat.le_refl, Nat.zero_add, Nat.sub_zero, Nat.add_zero, take_full, List.replicate_succ, List.replicate_zero, List.set_cons_zero, List.set_cons_succ, Option.some.injEq, FV.bool.injEq, FV.int.injEq, most, deep, wrap64, wrapu64, wrapu8, wrapi8]
      exact Ok_inL (by decide) (by simp [lowTm, low, lows, LAWSb]) (by simp [cutH, lowHeap, lowObj, lows, low, LAWSb]) (ih (i + 1) m (by omega) (by omega) (fun j hj e => by
        by_cases hji : j = i
        · subst hji; exact absurd e h1
        · exact hok j (by omega) e))
theorem rSubst_spec (t u : Te) (n : List UInt8) (ht : size t ≤ 1000000) (hu : size u ≤ 1000000) (tt : TOk t) (tu : TOk u) : ∃ v, SubQ t u n v ∧ ∀ h nx, lim T 9 [.agg [.int .u8 (t).k, .int .i64 (t).w, .int .u64 (t).b, .str (t).s, .int .i64 (t).lo, .lst (t).e ((t).l.map tV)], .str n, .agg [.int .u8 (u).k, .int .i64 (u).w, .int .u64 (u).b, .str (u).s, .int .i64 (u).lo, .lst (u).e ((u).l.map tV)]] h nx = some (v, h, nx) := by
  have c1 := rCheck_spec t tt ht
  have c2 := rCheck_spec u tu hu
  have hli := rList_spec t ht
  refine lim_isoP tg9 rfl (args := [.agg [.int .u8 (t).k, .int .i64 (t).w, .int .u64 (t).b, .str (t).s, .int .i64 (t).lo, .lst (t).e ((t).l.map tV)], .str n, .agg [.int .u8 (u).k, .int .i64 (u).w, .int .u64 (u).b, .str (u).s, .int .i64 (u).lo, .lst (u).e ((u).l.map tV)]]) rfl (by simp [pures, pure_, pu_Ts]) ?_
  by_cases e1 : checkS t = 0
  · by_cases e2 : checkS u = 0
    · rw [e1] at c1
      rw [e2] at c2
      obtain ⟨sz, _, hno, _⟩ := check_zero e1
      obtain ⟨szu, _, _, _⟩ := check_zero e2
      have hvl : (varList t).length ≤ size t := by have := varL_len (nodesT t); rw [nodesT_len] at this; exact this
      simp (disch := first | omega | (simp only [List.length_append, List.length_map, List.length_cons, List.length_nil, List.length_replicate, List.length_drop, List.length_take]; omega) | (simp only [hget_c, Nat.reduceEqDiff, ↓reduceIte]; done) | assumption | (simp (disch := omega) only [hg_ne, hg_eq, hgs_ne, *]; done) | (simp only [LAWSb]; done) | with_unfolding_all rfl) only [c9, LAWSb, c1, c2, hli, EV1, EV2, EV3, EV4, EV5, EV6, List.map_cons, List.map_nil, w_lp1, w_lp0, ca_0, ca_s, Nat.reduceAdd, Nat.reduceSub, Int.reduceToNat, Nat.reduceMul, Nat.reduceEqDiff, Nat.reduceLeDiff, Int.reduceEq, Int.reduceLT, Int.reduceLE, ↓reduceIte, List.length_cons, List.length_nil, List.getElem?_cons_zero, List.getElem?_cons_succ, if_true, if_false, Ck_pos, List.all_cons, List.all_nil, Bool.and_self, Bool.and_true, Bool.true_and, beq_self_eq_true, eq_self, Bool.not_true, Bool.not_false, decide_true, decide_false, and_self, true_and, and_true, List.drop_zero, List.drop_succ_cons, List.take_succ_cons, List.take_zero, List.take_nil, List.drop_nil, List.cons_append, List.nil_append, List.append_nil, Int.toNat_natCast, List.length_map, Nat.le_refl, Nat.zero_add, Nat.sub_zero, Nat.add_zero, take_full, List.replicate_succ, List.replicate_zero, List.set_cons_zero, List.set_cons_succ, Option.some.injEq, FV.bool.injEq, FV.int.injEq, most, deep, wrap64, wrapu64, wrapu8, wrapi8]
      exact rSubst_loop t u n sz szu e1 e2 hno tt tu _ rfl (by omega) (varList t).length 0 0 (by omega) (by rw [List.drop_zero, Nat.zero_add]; exact cnt_occ n _) (fun j hj => by omega)
    · rw [e1] at c1
      simp (disch := first | omega | (simp only [List.length_append, List.length_map, List.length_cons, List.length_nil, List.length_replicate, List.length_drop, List.length_take]; omega) | (simp only [hget_c, Nat.reduceEqDiff, ↓reduceIte]; done) | assumption | (simp (disch := omega) only [hg_ne, hg_eq, hgs_ne, *]; done) | (simp only [LAWSb]; done) | with_unfolding_all rfl) only [c9, LAWSb, c1, c2, e2, EV1, EV2, EV3, EV4, EV5, EV6, List.map_cons, List.map_nil, w_lp1, w_lp0, ca_0, ca_s, Nat.reduceAdd, Nat.reduceSub, Int.reduceToNat, Nat.reduceMul, Nat.reduceEqDiff, Nat.reduceLeDiff, Int.reduceEq, Int.reduceLT, Int.reduceLE, ↓reduceIte, List.length_cons, List.length_nil, List.getElem?_cons_zero, List.getElem?_cons_succ, if_true, if_false, Ck_pos, List.all_cons, List.all_nil, Bool.and_self, Bool.and_true, Bool.true_and, beq_self_eq_true, eq_self, Bool.not_true, Bool.not_false, decide_true, decide_false, and_self, true_and, and_true, List.drop_zero, List.drop_succ_cons, List.take_succ_cons, List.take_zero, List.take_nil, List.drop_nil, List.cons_append, List.nil_append, List.append_nil, Int.toNat_natCast, List.length_map, Nat.le_refl, Nat.zero_add, Nat.sub_zero, Nat.add_zero, take_full, List.replicate_succ, List.replicate_zero, List.set_cons_zero, List.set_cons_succ, Option.some.injEq, FV.bool.injEq, FV.int.injEq, most, deep, wrap64, wrapu64, wrapu8, wrapi8]
      exact zero_sub (by unfold substE; rw [if_neg (by simp [e1]), if_pos e2]) e2
  · simp (disch := first | omega | (simp only [List.length_append, List.length_map, List.length_cons, List.length_nil, List.length_replicate, List.length_drop, List.length_take]; omega) | (simp only [hget_c, Nat.reduceEqDiff, ↓reduceIte]; done) | assumption | (simp (disch := omega) only [hg_ne, hg_eq, hgs_ne, *]; done) | (simp only [LAWSb]; done) | with_unfolding_all rfl) only [c9, LAWSb, c1, e1, EV1, EV2, EV3, EV4, EV5, EV6, List.map_cons, List.map_nil, w_lp1, w_lp0, ca_0, ca_s, Nat.reduceAdd, Nat.reduceSub, Int.reduceToNat, Nat.reduceMul, Nat.reduceEqDiff, Nat.reduceLeDiff, Int.reduceEq, Int.reduceLT, Int.reduceLE, ↓reduceIte, List.length_cons, List.length_nil, List.getElem?_cons_zero, List.getElem?_cons_succ, if_true, if_false, Ck_pos, List.all_cons, List.all_nil, Bool.and_self, Bool.and_true, Bool.true_and, beq_self_eq_true, eq_self, Bool.not_true, Bool.not_false, decide_true, decide_false, and_self, true_and, and_true, List.drop_zero, List.drop_succ_cons, List.take_succ_cons, List.take_zero, List.take_nil, List.drop_nil, List.cons_append, List.nil_append, List.append_nil, Int.toNat_natCast, List.length_map, Nat.le_refl, Nat.zero_add, Nat.sub_zero, Nat.add_zero, take_full, List.replicate_succ, List.replicate_zero, List.set_cons_zero, List.set_cons_succ, Option.some.injEq, FV.bool.injEq, FV.int.injEq, most, deep, wrap64, wrapu64, wrapu8, wrapi8]
    exact zero_sub (by unfold substE; rw [if_pos e1]) e1

/-! The writes of TermPuts. -/
def Cell6 (x : FV) : Prop := ∃ a0 a1 a2 a3 a4 a5, x = .agg [a0, a1, a2, a3, a4, a5]
def Lv0 (h : Heap) (lo hi : Nat) (c : FV) : Prop := (∃ e, c = .lst e []) ∨ ∃ id m xs, c = .sref 6 id m 0 m ∧ lo ≤ id ∧ id < hi ∧ hget h id = some (.row 6 xs) ∧ xs.length = m ∧ m ≤ 1000000 ∧ ∀ x ∈ xs, Cell6 x
def Cell6L (h : Heap) (lo hi : Nat) (x : FV) : Prop := ∃ a0 a1 a2 a3 a4 c, x = .agg [a0, a1, a2, a3, a4, c] ∧ Lv0 h lo hi c
def Lv1 (h : Heap) (lo hi : Nat) (c : FV) : Prop := (∃ e, c = .lst e []) ∨ ∃ id m xs, c = .sref 6 id m 0 m ∧ lo ≤ id ∧ id < hi ∧ hget h id = some (.row 6 xs) ∧ xs.length = m ∧ m ≤ 1000000 ∧ ∀ x ∈ xs, Cell6L h lo hi x
section
variable {h : Heap} {lo hi idw k : Nat} {ys : List FV} {a0 r1 r2 r3 r4 r5 v c : FV}
theorem mem_set' {x y : FV} {l : List FV} {k : Nat} (hx : x ∈ l.set k y) : x = y ∨ x ∈ l := (List.mem_or_eq_of_mem_set hx).symm
theorem Lv0.write (hg : hget h idw = some (.row 6 ys)) (hk : ys[k]? = some (.agg [a0, r1, r2, r3, r4, r5])) (hc : Lv0 h lo hi c) : Lv0 (hset h idw (.row 6 (ys.set k (.agg [v, r1, r2, r3, r4, r5])))) lo hi c := by
  rcases hc with hc | ⟨id, m, xs, h1, h2, h3, h4, h5, h6, h7⟩
  · exact .inl hc
  · by_cases e : id = idw
    · subst e
      rw [hg] at h4; cases h4
      exact .inr ⟨id, m, _, h1, h2, h3, hgs_eq hg, by rw [List.length_set]; exact h5, h6, fun x hx => by
        rcases mem_set' hx with rfl | hx
        · exact ⟨_, _, _, _, _, _, rfl⟩
        · exact h7 x hx⟩
    · exact .inr ⟨id, m, xs, h1, h2, h3, by rw [hgs_ne (by omega)]; exact h4, h5, h6, h7⟩
theorem Lv1.write (hg : hget h idw = some (.row 6 ys)) (hk : ys[k]? = some (.agg [a0, r1, r2, r3, r4, r5])) (hc : Lv1 h lo hi c) : Lv1 (hset h idw (.row 6 (ys.set k (.agg [v, r1, r2, r3, r4, r5])))) lo hi c := by
  rcases hc with hc | ⟨id, m, xs, h1, h2, h3, h4, h5, h6, h7⟩
  · exact .inl hc
  · by_cases e : id = idw
    · subst e
      rw [hg] at h4; cases h4
      exact .inr ⟨id, m, _, h1, h2, h3, hgs_eq hg, by rw [List.length_set]; exact h5, h6, fun x hx => by
        rcases mem_set' hx with rfl | hx
        · obtain ⟨b0, b1, b2, b3, b4, c', e, hc'⟩ := h7 _ (List.mem_of_getElem? hk)
          cases e
          exact ⟨_, _, _, _, _, _, rfl, hc'.write hg hk⟩
        · obtain ⟨b0, b1, b2, b3, b4, c', e, hc'⟩ := h7 x hx
          exact ⟨_, _, _, _, _, _, e, hc'.write hg hk⟩⟩
    · exact .inr ⟨id, m, xs, h1, h2, h3, by rw [hgs_ne (by omega)]; exact h4, h5, h6, fun x hx => by
        obtain ⟨b0, b1, b2, b3, b4, c', e, hc'⟩ := h7 x hx
        exact ⟨_, _, _, _, _, _, e, hc'.write hg hk⟩⟩
end
theorem RpS.lv0 {h : Heap} {a b : Nat} {c : FV} {l : List Te} (hl : l.length ≤ 1000000) (hc : RpS h a b c l) : Lv0 h a b c := by
  rcases hc with ⟨e, h1, _⟩ | ⟨id, xs, h1, h2, h3, h4, h5⟩
  · exact .inl ⟨e, h1⟩
  · refine .inr ⟨id, _, xs, h1, h2, h3, h4, h5.length, hl, fun x hx => ?_⟩
    obtain ⟨j, hj, rfl⟩ := List.mem_iff_getElem.1 hx
    obtain ⟨a0, a1, a2, a3, a4, a5, e⟩ := RpL.get h5 j (by rw [← h5.length]; exact hj)
    rw [List.getElem?_eq_getElem hj] at e
    exact ⟨_, _, _, _, _, _, Option.some.inj e⟩
theorem RpL.lv {h : Heap} {a b : Nat} : ∀ {xs : List FV} {l : List Te}, (∀ t ∈ l, t.l.length ≤ 1000000) → RpL h a b xs l → ∀ x ∈ xs, Cell6L h a b x := by
  intro xs
  induction xs with
  | nil => intro l _ _ x hx; cases hx
  | cons y xs ih =>
    intro l hb hl x hx
    cases l with
    | nil => exact hl.elim
    | cons t l =>
      rcases List.mem_cons.1 hx with rfl | hx
      · obtain ⟨c, rfl, hc⟩ := RpT_iff.1 hl.1
        exact ⟨_, _, _, _, _, _, rfl, RpS.lv0 (hb t (by simp)) hc⟩
      · exact ih (fun t' h' => hb t' (by simp [h'])) hl.2 x hx
theorem RpS.lv1 {h : Heap} {a b : Nat} {c : FV} {l : List Te} (hl : l.length ≤ 1000000) (hb : ∀ t ∈ l, t.l.length ≤ 1000000) (hc : RpS h a b c l) : Lv1 h a b c := by
  rcases hc with ⟨e, h1, _⟩ | ⟨id, xs, h1, h2, h3, h4, h5⟩
  · exact .inl ⟨e, h1⟩
  · exact .inr ⟨id, _, xs, h1, h2, h3, h4, h5.length, hl, RpL.lv hb h5⟩
/-- What is not the result's stays. -/
abbrev JJ (H h : Heap) (lo : Nat) : Prop := ∀ i, i < lo → hget h i = hget H i
abbrev TP0 (p : Nat) : Tm := [(3, .ptr 0 1 0 0), (4, .ptr 1 1 0 0), (7, .ptr 16 1 0 0), (8, .ptr 17 1 0 0), (9, .ptr p 1 0 0), (13, .bool true)]
theorem inner_loop (H : Heap) (p lo hi id m : Nat) (z0 z1 z2 z3 z4 : FV) (hp : p < lo) (hP : hget H p = some (.row 6 [.agg [z0, z1, z2, z3, z4, .sref 6 id m 0 m]])) (hid : lo ≤ id) (i : Nat) (him : i < m) (hm : m ≤ 1000000) (id' m' : Nat) (hid' : lo ≤ id') (hm' : m' ≤ 1000000) (Q : Post Out)
    (next : ∀ h nx xs a0 a1 a2 a3 a4, JJ H h lo → Lv1 h lo hi (.sref 6 id m 0 m) → hget h id = some (.row 6 xs) → xs.length = m → xs[i]? = some (.agg [a0, a1, a2, a3, a4, .sref 6 id' m' 0 m']) →
      @Ok Out (runs T [.code k3_1, .inB 1, .code k3_2, .inL none b3_3, .inB 0, .code k3_4] [(3, .ptr 0 1 0 0), (4, .ptr 1 1 0 0), (7, .ptr 16 1 0 0), (8, .ptr 17 1 0 0), (9, .ptr p 1 0 0), (13, .bool true), (14, .int .i64 i), (15, .int .i64 m'), (68, .bool false)] h nx) Q) :
    ∀ (k j : Nat) (h : Heap) (nx : Nat) (xs ys : List FV) (a0 a1 a2 a3 a4 : FV), j + k = m' → JJ H h lo → Lv1 h lo hi (.sref 6 id m 0 m) → hget h id = some (.row 6 xs) → xs.length = m → xs[i]? = some (.agg [a0, a1, a2, a3, a4, .sref 6 id' m' 0 m']) → hget h id' = some (.row 6 ys) → ys.length = m' → (∀ y ∈ ys, Cell6 y) →
    @Ok Out (runs T [.code b3_0, .inL none b3_0, .inB 2, .code k3_1, .inB 1, .code k3_2, .inL none b3_3, .inB 0, .code k3_4] [(3, .ptr 0 1 0 0), (4, .ptr 1 1 0 0), (7, .ptr 16 1 0 0), (8, .ptr 17 1 0 0), (9, .ptr p 1 0 0), (13, .bool true), (14, .int .i64 i), (15, .int .i64 j)] h nx) Q := by
  intro k
  induction k with
  | zero =>
    intro j h nx xs ys a0 a1 a2 a3 a4 hj hJ hL hg hxl hxi hg' hyl hyc
    have hP' := (hJ p hp).trans hP
    have : ¬ (j : Int) < m' := by omega
    have hjm : j = m' := by omega
    simp (disch := first | omega | (simp only [List.length_append, List.length_map, List.length_cons, List.length_nil, List.length_replicate, List.length_drop, List.length_take]; omega) | (simp only [hget_c, Nat.reduceEqDiff, ↓reduceIte]; done) | assumption | (simp (disch := omega) only [hg_ne, hg_eq, hgs_ne, *]; done) | (simp only [LAWSb]; done) | with_unfolding_all rfl) only [unf b3_0.eq_1, c3, this, LAWSb, hP', hg, hxl, hxi, hg', hyl, EV1, EV2, EV3, EV4, EV5, EV6, List.map_cons, List.map_nil, w_lp1, w_lp0, ca_0, ca_s, Nat.reduceAdd, Nat.reduceSub, Int.reduceToNat, Nat.reduceMul, Nat.reduceEqDiff, Nat.reduceLeDiff, Int.reduceEq, Int.reduceLT, Int.reduceLE, ↓reduceIte, List.length_cons, List.length_nil, List.getElem?_cons_zero, List.getElem?_cons_succ, if_true, if_false, Ck_pos, List.all_cons, List.all_nil, Bool.and_self, Bool.and_true, Bool.true_and, beq_self_eq_true, eq_self, Bool.not_true, Bool.not_false, decide_true, decide_false, and_self, true_and, and_true, List.drop_zero, List.drop_succ_cons, List.take_succ_cons, List.take_zero, List.take_nil, List.drop_nil, List.cons_append, List.nil_append, List.append_nil, Int.toNat_natCast, List.length_map, Nat.le_refl, Nat.zero_add, Nat.sub_zero, Nat.add_zero, take_full, List.replicate_succ, List.replicate_zero, List.set_cons_zero, List.set_cons_succ, Option.some.injEq, FV.bool.injEq, FV.int.injEq, most, deep, wrap64, wrapu64, wrapu8, wrapi8]
    subst hjm
    exact next h _ xs a0 a1 a2 a3 a4 hJ hL hg hxl hxi
  | succ k ih =>
    intro j h nx xs ys a0 a1 a2 a3 a4 hj hJ hL hg hxl hxi hg' hyl hyc
    have hP' := (hJ p hp).trans hP
    have : (j : Int) < m' := by omega
    obtain ⟨b0, b1, b2, b3, b4, b5, hyj⟩ := hyc _ (List.getElem_mem (show j < ys.length by omega))
    have hyj' : ys[j]? = some (.agg [b0, b1, b2, b3, b4, b5]) := by rw [List.getElem?_eq_getElem (show j < ys.length by omega), hyj]
    simp (disch := first | omega | (simp only [List.length_append, List.length_map, List.length_cons, List.length_nil, List.length_replicate, List.length_drop, List.length_take]; omega) | (simp only [hget_c, Nat.reduceEqDiff, ↓reduceIte]; done) | assumption | (simp (disch := omega) only [hg_ne, hg_eq, hgs_ne, *]; done) | (simp only [LAWSb]; done) | with_unfolding_all rfl) only [unf b3_0.eq_1, c3, this, LAWSb, hP', hg, hxl, hxi, hg', hyl, hyj', EV1, EV2, EV3, EV4, EV5, EV6, List.map_cons, List.map_nil, w_lp1, w_lp0, ca_0, ca_s, Nat.reduceAdd, Nat.reduceSub, Int.reduceToNat, Nat.reduceMul, Nat.reduceEqDiff, Nat.reduceLeDiff, Int.reduceEq, Int.reduceLT, Int.reduceLE, ↓reduceIte, List.length_cons, List.length_nil, List.getElem?_cons_zero, List.getElem?_cons_succ, if_true, if_false, Ck_pos, List.all_cons, List.all_nil, Bool.and_self, Bool.and_true, Bool.true_and, beq_self_eq_true, eq_self, Bool.not_true, Bool.not_false, decide_true, decide_false, and_self, true_and, and_true, List.drop_zero, List.drop_succ_cons, List.take_succ_cons, List.take_zero, List.take_nil, List.drop_nil, List.cons_append, List.nil_append, List.append_nil, Int.toNat_natCast, List.length_map, Nat.le_refl, Nat.zero_add, Nat.sub_zero, Nat.add_zero, take_full, List.replicate_succ, List.replicate_zero, List.set_cons_zero, List.set_cons_succ, Option.some.injEq, FV.bool.injEq, FV.int.injEq, most, deep, wrap64, wrapu64, wrapu8, wrapi8]
    have hJ' : JJ H (hset h id' (.row 6 (ys.set j (.agg [.int .u8 77, b1, b2, b3, b4, b5])))) lo := fun q hq => by rw [hgs_ne (by omega)]; exact hJ q hq
    have hL' := hL.write (v := .int .u8 77) hg' hyj'
    have hys' : ∀ y ∈ ys.set j (.agg [.int .u8 77, b1, b2, b3, b4, b5]), Cell6 y := fun y hy => by
      rcases mem_set' hy with rfl | hy
      · exact ⟨_, _, _, _, _, _, rfl⟩
      · exact hyc y hy
    refine Ok_inL0 ?_
    by_cases e : id = id'
    · subst e
      rw [hg] at hg'; cases hg'
      by_cases e2 : i = j
      · subst e2
        rw [hxi] at hyj'; cases hyj'
        exact ih (i + 1) _ _ (xs.set i (.agg [.int .u8 77, a1, a2, a3, a4, .sref 6 id m' 0 m'])) _ _ _ _ _ _ (by omega) hJ' hL' (hgs_eq hg) (by rw [List.length_set]; exact hxl) (by rw [List.getElem?_set_self (by omega)]) (hgs_eq hg) (by rw [List.length_set]; omega) hys'
      · exact ih (j + 1) _ _ (xs.set j _) _ _ _ _ _ _ (by omega) hJ' hL' (hgs_eq hg) (by rw [List.length_set]; exact hxl) (by rw [List.getElem?_set_ne (by omega)]; exact hxi) (hgs_eq hg) (by rw [List.length_set]; omega) hys'
    · exact ih (j + 1) _ _ xs _ _ _ _ _ _ (by omega) hJ' hL' (by rw [hgs_ne (by omega)]; exact hg) hxl hxi (hgs_eq hg') (by rw [List.length_set]; omega) hys'
theorem outer_loop (H : Heap) (p lo hi id m : Nat) (z0 z1 z2 z3 z4 : FV) (hp : p < lo) (hP : hget H p = some (.row 6 [.agg [z0, z1, z2, z3, z4, .sref 6 id m 0 m]])) (hid : lo ≤ id) (hm : m ≤ 1000000) (Q : Post Out)
    (next : ∀ h nx, JJ H h lo → @Ok Out (runs T [.code k3_4] [(3, .ptr 0 1 0 0), (4, .ptr 1 1 0 0), (7, .ptr 16 1 0 0), (8, .ptr 17 1 0 0), (9, .ptr p 1 0 0), (13, .bool true), (14, .int .i64 m), (57, .bool false)] h nx) Q) :
    ∀ (k i : Nat) (h : Heap) (nx : Nat), i + k = m → JJ H h lo → Lv1 h lo hi (.sref 6 id m 0 m) →
    @Ok Out (runs T [.code b3_3, .inL none b3_3, .inB 0, .code k3_4] [(3, .ptr 0 1 0 0), (4, .ptr 1 1 0 0), (7, .ptr 16 1 0 0), (8, .ptr 17 1 0 0), (9, .ptr p 1 0 0), (13, .bool true), (14, .int .i64 i)] h nx) Q := by
  intro k
  induction k with
  | zero =>
    intro i h nx hi' hJ hL
    have hP' := (hJ p hp).trans hP
    have : ¬ (i : Int) < m := by omega
    have him : i = m := by omega
    simp (disch := first | omega | (simp only [List.length_append, List.length_map, List.length_cons, List.length_nil, List.length_replicate, List.length_drop, List.length_take]; omega) | (simp only [hget_c, Nat.reduceEqDiff, ↓reduceIte]; done) | assumption | (simp (disch := omega) only [hg_ne, hg_eq, hgs_ne, *]; done) | (simp only [LAWSb]; done) | with_unfolding_all rfl) only [unf b3_3.eq_1, c3, this, LAWSb, hP', EV1, EV2, EV3, EV4, EV5, EV6, List.map_cons, List.map_nil, w_lp1, w_lp0, ca_0, ca_s, Nat.reduceAdd, Nat.reduceSub, Int.reduceToNat, Nat.reduceMul, Nat.reduceEqDiff, Nat.reduceLeDiff, Int.reduceEq, Int.reduceLT, Int.reduceLE, ↓reduceIte, List.length_cons, List.length_nil, List.getElem?_cons_zero, List.getElem?_cons_succ, if_true, if_false, Ck_pos, List.all_cons, List.all_nil, Bool.and_self, Bool.and_true, Bool.true_and, beq_self_eq_true, eq_self, Bool.not_true, Bool.not_false, decide_true, decide_false, and_self, true_and, and_true, List.drop_zero, List.drop_succ_cons, List.take_succ_cons, List.take_zero, List.take_nil, List.drop_nil, List.cons_append, List.nil_append, List.append_nil, Int.toNat_natCast, List.length_map, Nat.le_refl, Nat.zero_add, Nat.sub_zero, Nat.add_zero, take_full, List.replicate_succ, List.replicate_zero, List.set_cons_zero, List.set_cons_succ, Option.some.injEq, FV.bool.injEq, FV.int.injEq, most, deep, wrap64, wrapu64, wrapu8, wrapi8]
    subst him
    exact next h _ hJ
  | succ k ih =>
    intro i h nx hi' hJ hL
    have hP' := (hJ p hp).trans hP
    have : (i : Int) < m := by omega
    -- what is behind the inner loop
    have behind : ∀ h nx xs a0 a1 a2 a3 a4 c' jj, JJ H h lo → Lv1 h lo hi (.sref 6 id m 0 m) → hget h id = some (.row 6 xs) → xs.length = m → xs[i]? = some (.agg [a0, a1, a2, a3, a4, c']) →
        @Ok Out (runs T [.code k3_1, .inB 1, .code k3_2, .inL none b3_3, .inB 0, .code k3_4] [(3, .ptr 0 1 0 0), (4, .ptr 1 1 0 0), (7, .ptr 16 1 0 0), (8, .ptr 17 1 0 0), (9, .ptr p 1 0 0), (13, .bool true), (14, .int .i64 i), (15, .int .i64 jj), (68, .bool false)] h nx) Q := by
      intro h nx xs a0 a1 a2 a3 a4 c' jj hJ hL hg hxl hxi
      have hP' := (hJ p hp).trans hP
      simp (disch := first | omega | (simp only [List.length_append, List.length_map, List.length_cons, List.length_nil, List.length_replicate, List.length_drop, List.length_take]; omega) | (simp only [hget_c, Nat.reduceEqDiff, ↓reduceIte]; done) | assumption | (simp (disch := omega) only [hg_ne, hg_eq, hgs_ne, *]; done) | (simp only [LAWSb]; done) | with_unfolding_all rfl) only [unf k3_1.eq_1, unf k3_2.eq_1, c3, this, LAWSb, hP', hg, hxl, hxi, EV1, EV2, EV3, EV4, EV5, EV6, List.map_cons, List.map_nil, w_lp1, w_lp0, ca_0, ca_s, Nat.reduceAdd, Nat.reduceSub, Int.reduceToNat, Nat.reduceMul, Nat.reduceEqDiff, Nat.reduceLeDiff, Int.reduceEq, Int.reduceLT, Int.reduceLE, ↓reduceIte, List.length_cons, List.length_nil, List.getElem?_cons_zero, List.getElem?_cons_succ, if_true, if_false, Ck_pos, List.all_cons, List.all_nil, Bool.and_self, Bool.and_true, Bool.true_and, beq_self_eq_true, eq_self, Bool.not_true, Bool.not_false, decide_true, decide_false, and_self, true_and, and_true, List.drop_zero, List.drop_succ_cons, List.take_succ_cons, List.take_zero, List.take_nil, List.drop_nil, List.cons_append, List.nil_append, List.append_nil, Int.toNat_natCast, List.length_map, Nat.le_refl, Nat.zero_add, Nat.sub_zero, Nat.add_zero, take_full, List.replicate_succ, List.replicate_zero, List.set_cons_zero, List.set_cons_succ, Option.some.injEq, FV.bool.injEq, FV.int.injEq, most, deep, wrap64, wrapu64, wrapu8, wrapi8]
      exact Ok_inL0 (ih (i + 1) _ _ (by omega) (fun q hq => by rw [hgs_ne (by omega)]; exact hJ q hq) (hL.write (v := .int .u8 77) hg hxi))
    have hL2 := hL
    rcases hL2 with ⟨e, h1⟩ | ⟨id2, m2, xs, h1, h2, h3, h4, h5, h6, h7⟩
    · cases h1
    · cases h1
      obtain ⟨a0, a1, a2, a3, a4, c', hx, hc'⟩ := h7 _ (List.getElem_mem (show i < xs.length by omega))
      have hxi : xs[i]? = some (.agg [a0, a1, a2, a3, a4, c']) := by rw [List.getElem?_eq_getElem (show i < xs.length by omega), hx]
      rcases hc' with ⟨e, rfl⟩ | ⟨id', m', ys, rfl, q2, q3, q4, q5, q6, q7⟩
      · have hz : decide ((0 : Int) < ((0 : Nat) : Int)) = false := rfl
        simp (disch := first | omega | (simp only [List.length_append, List.length_map, List.length_cons, List.length_nil, List.length_replicate, List.length_drop, List.length_take]; omega) | (simp only [hget_c, Nat.reduceEqDiff, ↓reduceIte]; done) | assumption | (simp (disch := omega) only [hg_ne, hg_eq, hgs_ne, *]; done) | (simp only [LAWSb]; done) | with_unfolding_all rfl) only [unf b3_3.eq_1, unf b3_0.eq_1, w_lp0, c3, this, LAWSb, hP', h4, h5, hxi, hz, EV1, EV2, EV3, EV4, EV5, EV6, List.map_cons, List.map_nil, w_lp1, w_lp0, ca_0, ca_s, Nat.reduceAdd, Nat.reduceSub, Int.reduceToNat, Nat.reduceMul, Nat.reduceEqDiff, Nat.reduceLeDiff, Int.reduceEq, Int.reduceLT, Int.reduceLE, ↓reduceIte, List.length_cons, List.length_nil, List.getElem?_cons_zero, List.getElem?_cons_succ, if_true, if_false, Ck_pos, List.all_cons, List.all_nil, Bool.and_self, Bool.and_true, Bool.true_and, beq_self_eq_true, eq_self, Bool.not_true, Bool.not_false, decide_true, decide_false, and_self, true_and, and_true, List.drop_zero, List.drop_succ_cons, List.take_succ_cons, List.take_zero, List.take_nil, List.drop_nil, List.cons_append, List.nil_append, List.append_nil, Int.toNat_natCast, List.length_map, Nat.le_refl, Nat.zero_add, Nat.sub_zero, Nat.add_zero, take_full, List.replicate_succ, List.replicate_zero, List.set_cons_zero, List.set_cons_succ, Option.some.injEq, FV.bool.injEq, FV.int.injEq, most, deep, wrap64, wrapu64, wrapu8, wrapi8]
        exact behind _ _ xs _ _ _ _ _ _ 0 hJ hL h4 h5 hxi
      · simp (disch := first | omega | (simp only [List.length_append, List.length_map, List.length_cons, List.length_nil, List.length_replicate, List.length_drop, List.length_take]; omega) | (simp only [hget_c, Nat.reduceEqDiff, ↓reduceIte]; done) | assumption | (simp (disch := omega) only [hg_ne, hg_eq, hgs_ne, *]; done) | (simp only [LAWSb]; done) | with_unfolding_all rfl) only [unf b3_3.eq_1, c3, this, LAWSb, hP', h4, h5, hxi, EV1, EV2, EV3, EV4, EV5, EV6, List.map_cons, List.map_nil, w_lp1, w_lp0, ca_0, ca_s, Nat.reduceAdd, Nat.reduceSub, Int.reduceToNat, Nat.reduceMul, Nat.reduceEqDiff, Nat.reduceLeDiff, Int.reduceEq, Int.reduceLT, Int.reduceLE, ↓reduceIte, List.length_cons, List.length_nil, List.getElem?_cons_zero, List.getElem?_cons_succ, if_true, if_false, Ck_pos, List.all_cons, List.all_nil, Bool.and_self, Bool.and_true, Bool.true_and, beq_self_eq_true, eq_self, Bool.not_true, Bool.not_false, decide_true, decide_false, and_self, true_and, and_true, List.drop_zero, List.drop_succ_cons, List.take_succ_cons, List.take_zero, List.take_nil, List.drop_nil, List.cons_append, List.nil_append, List.append_nil, Int.toNat_natCast, List.length_map, Nat.le_refl, Nat.zero_add, Nat.sub_zero, Nat.add_zero, take_full, List.replicate_succ, List.replicate_zero, List.set_cons_zero, List.set_cons_succ, Option.some.injEq, FV.bool.injEq, FV.int.injEq, most, deep, wrap64, wrapu64, wrapu8, wrapi8]
        exact inner_loop H p lo hi id m z0 z1 z2 z3 z4 hp hP hid i (by omega) hm id' m' q2 q6 Q (fun h nx xs a0 a1 a2 a3 a4 hJ hL hg hxl hxi => behind h nx xs a0 a1 a2 a3 a4 _ m' hJ hL hg hxl hxi) m' 0 _ _ xs ys _ _ _ _ _ (by omega) hJ hL h4 h5 hxi q4 q5 q7

/-! What TermPuts does. -/
theorem SuR.view {h : Heap} {nx : Nat} {t u : Te} {n : List UInt8} {r : FV × Heap × Nat} (hr : SuR h nx t u n r) : ∃ c, r.1 = .tup [.agg [.int .u8 (substT t u n).k, .int .i64 (substT t u n).w, .int .u64 (substT t u n).b, .str (substT t u n).s, .int .i64 (substT t u n).lo, c], .int .i64 (substE t u n)] ∧ RpS r.2.1 nx r.2.2 c (substT t u n).l ∧ Ext h r.2.1 nx r.2.2 := by
  obtain ⟨v, h1, h2, h3, h4⟩ := hr
  by_cases he : substE t u n = 0
  · obtain ⟨c, rfl, hc⟩ := RpT_iff.1 (h2 he)
    have : substT t u n = putT n u t := if_pos he
    rw [this]
    exact ⟨c, h1, hc, h4⟩
  · have hz := h3 he
    subst hz
    have : substT t u n = zT := if_neg he
    rw [this]
    exact ⟨.lst true [], h1, .inl ⟨true, rfl, rfl⟩, h4⟩
theorem substE_zero {t u : Te} {n : List UInt8} (h : substE t u n = 0) : checkS (putT n u t) = 0 := by
  unfold substE at h
  split at h
  · rename_i h1; exact absurd h h1
  · split at h
    · rename_i h1; exact absurd h h1
    · split at h
      · cases h
      · split at h
        · cases h
        · exact h
theorem substT_size (t u : Te) (n : List UInt8) : size (substT t u n) ≤ 400 := by
  unfold substT
  split
  · rename_i h; exact (check_zero (substE_zero h)).1
  · exact Nat.le_trans (show size zT ≤ 1 from Nat.le_refl _) (by omega)
theorem law_TP (t u : Te) (n : List UInt8) (tt : TOk t) (tu : TOk u) (hn : n.length ≤ 9223372036854775807) : ∀ h nx, lim T 3 [.agg [.int .u8 (t).k, .int .i64 (t).w, .int .u64 (t).b, .str (t).s, .int .i64 (t).lo, .lst (t).e ((t).l.map tV)], .agg [.int .u8 (u).k, .int .i64 (u).w, .int .u64 (u).b, .str (u).s, .int .i64 (u).lo, .lst (u).e ((u).l.map tV)], .str n] h nx = some (.bool true, h, nx) := by
  refine lim_iso tg3 rfl rfl (by simp [pures, pure_, pu_Ts]) ?_
  obtain ⟨b1, g1, c1⟩ := great_spec t tt
  obtain ⟨b2, g2, c2⟩ := great_spec u tu
  cases b1 with
  | true => 
    simp (disch := first | omega | (simp only [List.length_append, List.length_map, List.length_cons, List.length_nil, List.length_replicate, List.length_drop, List.length_take]; omega) | (simp only [hget_c, Nat.reduceEqDiff, ↓reduceIte]; done) | assumption | (simp (disch := omega) only [hg_ne, hg_eq, hgs_ne, *]; done) | (simp only [LAWSb]; done) | with_unfolding_all rfl) only [c3, LAWSb, c1, EV1, EV2, EV3, EV4, EV5, EV6, List.map_cons, List.map_nil, w_lp1, w_lp0, ca_0, ca_s, Nat.reduceAdd, Nat.reduceSub, Int.reduceToNat, Nat.reduceMul, Nat.reduceEqDiff, Nat.reduceLeDiff, Int.reduceEq, Int.reduceLT, Int.reduceLE, ↓reduceIte, List.length_cons, List.length_nil, List.getElem?_cons_zero, List.getElem?_cons_succ, if_true, if_false, Ck_pos, List.all_cons, List.all_nil, Bool.and_self, Bool.and_true, Bool.true_and, beq_self_eq_true, eq_self, Bool.not_true, Bool.not_false, decide_true, decide_false, and_self, true_and, and_true, List.drop_zero, List.drop_succ_cons, List.take_succ_cons, List.take_zero, List.take_nil, List.drop_nil, List.cons_append, List.nil_append, List.append_nil, Int.toNat_natCast, List.length_map, Nat.le_refl, Nat.zero_add, Nat.sub_zero, Nat.add_zero, take_full, List.replicate_succ, List.replicate_zero, List.set_cons_zero, List.set_cons_succ, Option.some.injEq, FV.bool.injEq, FV.int.injEq, most, deep, wrap64, wrapu64, wrapu8, wrapi8]
  | false =>
    cases b2 with
    | true => simp (disch := first | omega | (simp only [List.length_append, List.length_map, List.length_cons, List.length_nil, List.length_replicate, List.length_drop, List.length_take]; omega) | (simp only [hget_c, Nat.reduceEqDiff, ↓reduceIte]; done) | assumption | (simp (disch := omega) only [hg_ne, hg_eq, hgs_ne, *]; done) | (simp only [LAWSb]; done) | with_unfolding_all rfl) only [c3, LAWSb, c1, c2, EV1, EV2, EV3, EV4, EV5, EV6, List.map_cons, List.map_nil, w_lp1, w_lp0, ca_0, ca_s, Nat.reduceAdd, Nat.reduceSub, Int.reduceToNat, Nat.reduceMul, Nat.reduceEqDiff, Nat.reduceLeDiff, Int.reduceEq, Int.reduceLT, Int.reduceLE, ↓reduceIte, List.length_cons, List.length_nil, List.getElem?_cons_zero, List.getElem?_cons_succ, if_true, if_false, Ck_pos, List.all_cons, List.all_nil, Bool.and_self, Bool.and_true, Bool.true_and, beq_self_eq_true, eq_self, Bool.not_true, Bool.not_false, decide_true, decide_false, and_self, true_and, and_true, List.drop_zero, List.drop_succ_cons, List.take_succ_cons, List.take_zero, List.take_nil, List.drop_nil, List.cons_append, List.nil_append, List.append_nil, Int.toNat_natCast, List.length_map, Nat.le_refl, Nat.zero_add, Nat.sub_zero, Nat.add_zero, take_full, List.replicate_succ, List.replicate_zero, List.set_cons_zero, List.set_cons_succ, Option.some.injEq, FV.bool.injEq, FV.int.injEq, most, deep, wrap64, wrapu64, wrapu8, wrapi8]
    | false =>
      by_cases hl : (200 : Int) < n.length
      · simp (disch := first | omega | (simp only [List.length_append, List.length_map, List.length_cons, List.length_nil, List.length_replicate, List.length_drop, List.length_take]; omega) | (simp only [hget_c, Nat.reduceEqDiff, ↓reduceIte]; done) | assumption | (simp (disch := omega) only [hg_ne, hg_eq, hgs_ne, *]; done) | (simp only [LAWSb]; done) | with_unfolding_all rfl) only [c3, LAWSb, c1, c2, hl, EV1, EV2, EV3, EV4, EV5, EV6, List.map_cons, List.map_nil, w_lp1, w_lp0, ca_0, ca_s, Nat.reduceAdd, Nat.reduceSub, Int.reduceToNat, Nat.reduceMul, Nat.reduceEqDiff, Nat.reduceLeDiff, Int.reduceEq, Int.reduceLT, Int.reduceLE, ↓reduceIte, List.length_cons, List.length_nil, List.getElem?_cons_zero, List.getElem?_cons_succ, if_true, if_false, Ck_pos, List.all_cons, List.all_nil, Bool.and_self, Bool.and_true, Bool.true_and, beq_self_eq_true, eq_self, Bool.not_true, Bool.not_false, decide_true, decide_false, and_self, true_and, and_true, List.drop_zero, List.drop_succ_cons, List.take_succ_cons, List.take_zero, List.take_nil, List.drop_nil, List.cons_append, List.nil_append, List.append_nil, Int.toNat_natCast, List.length_map, Nat.le_refl, Nat.zero_add, Nat.sub_zero, Nat.add_zero, take_full, List.replicate_succ, List.replicate_zero, List.set_cons_zero, List.set_cons_succ, Option.some.injEq, FV.bool.injEq, FV.int.injEq, most, deep, wrap64, wrapu64, wrapu8, wrapi8]
      · obtain ⟨st, dt, _⟩ := g1 rfl
        obtain ⟨su, du, _⟩ := g2 rfl
        simp (disch := first | omega | (simp only [List.length_append, List.length_map, List.length_cons, List.length_nil, List.length_replicate, List.length_drop, List.length_take]; omega) | (simp only [hget_c, Nat.reduceEqDiff, ↓reduceIte]; done) | assumption | (simp (disch := omega) only [hg_ne, hg_eq, hgs_ne, *]; done) | (simp only [LAWSb]; done) | with_unfolding_all rfl) only [c3, LAWSb, c1, c2, hl, Nat.add_assoc, EV1, EV2, EV3, EV4, EV5, EV6, List.map_cons, List.map_nil, w_lp1, w_lp0, ca_0, ca_s, Nat.reduceAdd, Nat.reduceSub, Int.reduceToNat, Nat.reduceMul, Nat.reduceEqDiff, Nat.reduceLeDiff, Int.reduceEq, Int.reduceLT, Int.reduceLE, ↓reduceIte, List.length_cons, List.length_nil, List.getElem?_cons_zero, List.getElem?_cons_succ, if_true, if_false, Ck_pos, List.all_cons, List.all_nil, Bool.and_self, Bool.and_true, Bool.true_and, beq_self_eq_true, eq_self, Bool.not_true, Bool.not_false, decide_true, decide_false, and_self, true_and, and_true, List.drop_zero, List.drop_succ_cons, List.take_succ_cons, List.take_zero, List.take_nil, List.drop_nil, List.cons_append, List.nil_append, List.append_nil, Int.toNat_natCast, List.length_map, Nat.le_refl, Nat.zero_add, Nat.sub_zero, Nat.add_zero, take_full, List.replicate_succ, List.replicate_zero, List.set_cons_zero, List.set_cons_succ, Option.some.injEq, FV.bool.injEq, FV.int.injEq, most, deep, wrap64, wrapu64, wrapu8, wrapi8]
        refine Ok_call (rTwin_spec t (by omega) _ _) fun r hr => ?_
        obtain ⟨v1, h1, n1⟩ := r
        obtain ⟨hv1, x1, y1⟩ := hr
        dsimp only at hv1 x1 y1
        obtain ⟨k1, rfl, hk1⟩ := RpT_iff.1 hv1
        have cok1 : k1.one = true ∧ k1.cells.length = 1 := by
          rcases hk1 with ⟨e, rfl, _⟩ | ⟨id, xs, rfl, _⟩ <;> exact ⟨rfl, rfl⟩
        have a0 := (y1 0 (by omega)).trans (by simp (disch := omega) only [hg_ne, hg_eq] : _ = some (Obj.row 6 [.agg [.int .u8 (t).k, .int .i64 (t).w, .int .u64 (t).b, .str (t).s, .int .i64 (t).lo, .lst (t).e ((t).l.map tV)]]))
        have a1 := (y1 1 (by omega)).trans (by simp (disch := omega) only [hg_ne, hg_eq] : _ = some (Obj.row 6 [.agg [.int .u8 (u).k, .int .i64 (u).w, .int .u64 (u).b, .str (u).s, .int .i64 (u).lo, .lst (u).e ((u).l.map tV)]]))
        have a2 := (y1 16 (by omega)).trans (by simp (disch := omega) only [hg_ne, hg_eq] : _ = some (Obj.row 6 [.agg [.int .u8 0, .int .i64 0, .int .u64 0, .str [], .int .i64 0, .lst true []]]))
        have a3 := (y1 17 (by omega)).trans (by simp (disch := omega) only [hg_ne, hg_eq] : _ = some (Obj.row 6 [.agg [.int .u8 0, .int .i64 0, .int .u64 0, .str [], .int .i64 0, .lst true []]]))
        refine ⟨rfl, ?_⟩
        simp (disch := first | omega | (simp only [List.length_append, List.length_map, List.length_cons, List.length_nil, List.length_replicate, List.length_drop, List.length_take]; omega) | (simp only [hget_c, Nat.reduceEqDiff, ↓reduceIte]; done) | assumption | (simp (disch := omega) only [hg_ne, hg_eq, hgs_ne, *]; done) | (simp only [LAWSb]; done) | with_unfolding_all rfl) only [c3, LAWSb, a1, Nat.add_assoc, EV1, EV2, EV3, EV4, EV5, EV6, List.map_cons, List.map_nil, w_lp1, w_lp0, ca_0, ca_s, Nat.reduceAdd, Nat.reduceSub, Int.reduceToNat, Nat.reduceMul, Nat.reduceEqDiff, Nat.reduceLeDiff, Int.reduceEq, Int.reduceLT, Int.reduceLE, ↓reduceIte, List.length_cons, List.length_nil, List.getElem?_cons_zero, List.getElem?_cons_succ, if_true, if_false, Ck_pos, List.all_cons, List.all_nil, Bool.and_self, Bool.and_true, Bool.true_and, beq_self_eq_true, eq_self, Bool.not_true, Bool.not_false, decide_true, decide_false, and_self, true_and, and_true, List.drop_zero, List.drop_succ_cons, List.take_succ_cons, List.take_zero, List.take_nil, List.drop_nil, List.cons_append, List.nil_append, List.append_nil, Int.toNat_natCast, List.length_map, Nat.le_refl, Nat.zero_add, Nat.sub_zero, Nat.add_zero, take_full, List.replicate_succ, List.replicate_zero, List.set_cons_zero, List.set_cons_succ, Option.some.injEq, FV.bool.injEq, FV.int.injEq, most, deep, wrap64, wrapu64, wrapu8, wrapi8]
        refine Ok_call (rTwin_spec u (by omega) _ _) fun r hr => ?_
        obtain ⟨v2, h2, n2⟩ := r
        obtain ⟨hv2, x2, y2⟩ := hr
        dsimp only at hv2 x2 y2
        obtain ⟨k2, rfl, hk2⟩ := RpT_iff.1 hv2
        have cok2 : k2.one = true ∧ k2.cells.length = 1 := by
          rcases hk2 with ⟨e, rfl, _⟩ | ⟨id, xs, rfl, _⟩ <;> exact ⟨rfl, rfl⟩
        have b0 := (y2 0 (by omega)).trans a0
        have b1 := (y2 1 (by omega)).trans a1
        have b2 := (y2 16 (by omega)).trans a2
        have b3 := (y2 17 (by omega)).trans a3
        refine ⟨rfl, ?_⟩
        simp (disch := first | omega | (simp only [List.length_append, List.length_map, List.length_cons, List.length_nil, List.length_replicate, List.length_drop, List.length_take]; omega) | (simp only [hget_c, Nat.reduceEqDiff, ↓reduceIte]; done) | assumption | (simp (disch := omega) only [hg_ne, hg_eq, hgs_ne, *]; done) | (simp only [LAWSb]; done) | with_unfolding_all rfl) only [c3, LAWSb, b0, b1, b2, b3, cok1.1, cok2.1, hgs_ne, hgx_e, Option.map_some, Nat.add_assoc, EV1, EV2, EV3, EV4, EV5, EV6, List.map_cons, List.map_nil, w_lp1, w_lp0, ca_0, ca_s, Nat.reduceAdd, Nat.reduceSub, Int.reduceToNat, Nat.reduceMul, Nat.reduceEqDiff, Nat.reduceLeDiff, Int.reduceEq, Int.reduceLT, Int.reduceLE, ↓reduceIte, List.length_cons, List.length_nil, List.getElem?_cons_zero, List.getElem?_cons_succ, if_true, if_false, Ck_pos, List.all_cons, List.all_nil, Bool.and_self, Bool.and_true, Bool.true_and, beq_self_eq_true, eq_self, Bool.not_true, Bool.not_false, decide_true, decide_false, and_self, true_and, and_true, List.drop_zero, List.drop_succ_cons, List.take_succ_cons, List.take_zero, List.take_nil, List.drop_nil, List.cons_append, List.nil_append, List.append_nil, Int.toNat_natCast, List.length_map, Nat.le_refl, Nat.zero_add, Nat.sub_zero, Nat.add_zero, take_full, List.replicate_succ, List.replicate_zero, List.set_cons_zero, List.set_cons_succ, Option.some.injEq, FV.bool.injEq, FV.int.injEq, most, deep, wrap64, wrapu64, wrapu8, wrapi8]
        have kt : KOk t := fun x hx => (tt x hx).1.1
        have ku : KOk u := fun x hx => (tu x hx).1.1
        refine Ok_call (subst_spec t u n (by omega) (by omega) kt ku _ _) fun r hr => ?_
        obtain ⟨v3, h3, n3⟩ := r
        obtain ⟨k3, e3, hk3, x3, y3⟩ := hr.view
        dsimp only at e3 hk3 x3 y3
        subst e3
        have cok3 : k3.one = true ∧ k3.cells.length = 1 := by
          rcases hk3 with ⟨e, rfl, _⟩ | ⟨id, xs, rfl, _⟩ <;> exact ⟨rfl, rfl⟩
        have d0 := (y3 0 (by omega)).trans ((by simp (disch := omega) only [hgs_ne] : _ = hget h2 0).trans b0)
        have d1 := (y3 1 (by omega)).trans ((by simp (disch := omega) only [hgs_ne] : _ = hget h2 1).trans b1)
        obtain ⟨v4, ⟨A, rfl, hA⟩, hx4⟩ := rSubst_spec t u n (by omega) (by omega) tt tu
        refine ⟨rfl, ?_⟩
        simp (disch := first | omega | (simp only [List.length_append, List.length_map, List.length_cons, List.length_nil, List.length_replicate, List.length_drop, List.length_take]; omega) | (simp only [hget_c, Nat.reduceEqDiff, ↓reduceIte]; done) | assumption | (simp (disch := omega) only [hg_ne, hg_eq, hgs_ne, *]; done) | (simp only [LAWSb]; done) | with_unfolding_all rfl) only [c3, LAWSb, d0, d1, hx4, cok3.1, same_lim, hgs_ne, hgx_e, Option.map_some, Nat.add_assoc, EV1, EV2, EV3, EV4, EV5, EV6, List.map_cons, List.map_nil, w_lp1, w_lp0, ca_0, ca_s, Nat.reduceAdd, Nat.reduceSub, Int.reduceToNat, Nat.reduceMul, Nat.reduceEqDiff, Nat.reduceLeDiff, Int.reduceEq, Int.reduceLT, Int.reduceLE, ↓reduceIte, List.length_cons, List.length_nil, List.getElem?_cons_zero, List.getElem?_cons_succ, if_true, if_false, Ck_pos, List.all_cons, List.all_nil, Bool.and_self, Bool.and_true, Bool.true_and, beq_self_eq_true, eq_self, Bool.not_true, Bool.not_false, decide_true, decide_false, and_self, true_and, and_true, List.drop_zero, List.drop_succ_cons, List.take_succ_cons, List.take_zero, List.take_nil, List.drop_nil, List.cons_append, List.nil_append, List.append_nil, Int.toNat_natCast, List.length_map, Nat.le_refl, Nat.zero_add, Nat.sub_zero, Nat.add_zero, take_full, List.replicate_succ, List.replicate_zero, List.set_cons_zero, List.set_cons_succ, Option.some.injEq, FV.bool.injEq, FV.int.injEq, most, deep, wrap64, wrapu64, wrapu8, wrapi8]
        have sA := substT_size t u n
        have sAl := size_eq (substT t u n)
        simp only [B_B]
        refine Ok_ex (RpS.frz (a := n2 + 10) (b := n3) (l := (substT t u n).l) ?_ (by omega)) fun v hq => ?_
        · exact hk3.mono (by omega) (by omega) (fun i hi1 hi2 => by rw [hg_ne (by omega), hg_ne (by omega)])
        obtain ⟨e3, l3, hl3, rfl⟩ := hq
        have her : er (.mk (substT t u n).k (substT t u n).w (substT t u n).b (substT t u n).s (substT t u n).lo e3 l3) = er (substT t u n) := by
          rw [er_eq (substT t u n), er_eq, ← hl3]; rfl
        have c5 : ∀ h nx, isfR T c10 [.agg [.int .u8 (substT t u n).k, .int .i64 (substT t u n).w, .int .u64 (substT t u n).b, .str (substT t u n).s, .int .i64 (substT t u n).lo, .lst e3 (l3.map tV)], .agg [.int .u8 (A).k, .int .i64 (A).w, .int .u64 (A).b, .str (A).s, .int .i64 (A).lo, .lst (A).e ((A).l.map tV)]] h nx = some (.bool true, h, nx) := by
          have := same_spec (.mk (substT t u n).k (substT t u n).w (substT t u n).b (substT t u n).s (substT t u n).lo e3 l3) A (by rw [← size_er, her, size_er]; omega) (by rw [← size_er, hA, size_er]; omega)
          rw [same_er _ _ (her.trans hA.symm)] at this
          exact this
        have pz : pures (l3.map tV) = true := pu_Ts l3
        simp (disch := first | omega | (simp only [List.length_append, List.length_map, List.length_cons, List.length_nil, List.length_replicate, List.length_drop, List.length_take]; omega) | (simp only [hget_c, Nat.reduceEqDiff, ↓reduceIte]; done) | assumption | (simp (disch := omega) only [hg_ne, hg_eq, hgs_ne, *]; done) | (simp only [LAWSb]; done) | with_unfolding_all rfl) only [c3, LAWSb, c5, cok3.1, hgs_ne, hgx_e, Option.map_some, Nat.add_assoc, EV1, EV2, EV3, EV4, EV5, EV6, List.map_cons, List.map_nil, w_lp1, w_lp0, ca_0, ca_s, Nat.reduceAdd, Nat.reduceSub, Int.reduceToNat, Nat.reduceMul, Nat.reduceEqDiff, Nat.reduceLeDiff, Int.reduceEq, Int.reduceLT, Int.reduceLE, ↓reduceIte, List.length_cons, List.length_nil, List.getElem?_cons_zero, List.getElem?_cons_succ, if_true, if_false, Ck_pos, List.all_cons, List.all_nil, Bool.and_self, Bool.and_true, Bool.true_and, beq_self_eq_true, eq_self, Bool.not_true, Bool.not_false, decide_true, decide_false, and_self, true_and, and_true, List.drop_zero, List.drop_succ_cons, List.take_succ_cons, List.take_zero, List.take_nil, List.drop_nil, List.cons_append, List.nil_append, List.append_nil, Int.toNat_natCast, List.length_map, Nat.le_refl, Nat.zero_add, Nat.sub_zero, Nat.add_zero, take_full, List.replicate_succ, List.replicate_zero, List.set_cons_zero, List.set_cons_succ, Option.some.injEq, FV.bool.injEq, FV.int.injEq, most, deep, wrap64, wrapu64, wrapu8, wrapi8]
        have fin : ∀ (h : Heap) (nx m : Nat), (∀ i, i < n2 + 10 → hget h i = hget ((n3 + 7, Obj.row 6 [.agg [.int .u8 (A).k, .int .i64 (A).w, .int .u64 (A).b, .str (A).s, .int .i64 (A).lo, .lst (A).e ((A).l.map tV)]]) :: (n2 + 7, Obj.row 6 [.agg [.int .u8 (substT t u n).k, .int .i64 (substT t u n).w, .int .u64 (substT t u n).b, .str (substT t u n).s, .int .i64 (substT t u n).lo, k3]]) :: h3) i) →
            @Ok Out (runs T [.code k3_4] [(3, .ptr 0 1 0 0), (4, .ptr 1 1 0 0), (7, .ptr 16 1 0 0), (8, .ptr 17 1 0 0), (9, .ptr (n2 + 7) 1 0 0), (13, .bool true), (14, .int .i64 m), (57, .bool false)] h nx) ⟨fun x => resV c3.res x = some (.bool true)⟩ := by
          intro h nx m hJ
          have hH : ∀ i, i < n2 + 7 → hget h i = hget h3 i := fun i hi => by rw [hJ i (by omega), hg_ne (by omega), hg_ne (by omega)]
          have f0 := (hH 0 (by omega)).trans d0
          have f1 := (hH 1 (by omega)).trans d1
          have f16 : hget h 16 = some (Obj.row 6 [.agg [.int .u8 t.k, .int .i64 t.w, .int .u64 t.b, .str t.s, .int .i64 t.lo, k1]]) := (hH 16 (by omega)).trans ((y3 16 (by omega)).trans (by rw [hgs_ne (by omega)]; exact hgs_eq b2))
          have f17 : hget h 17 = some (Obj.row 6 [.agg [.int .u8 u.k, .int .i64 u.w, .int .u64 u.b, .str u.s, .int .i64 u.lo, k2]]) := (hH 17 (by omega)).trans ((y3 17 (by omega)).trans (hgs_eq (by rw [hgs_ne (by omega)]; exact b3)))
          have m1 : RpS h 22 n1 k1 t.l := hk1.mono (by omega) (by omega) (fun i hi1 hi2 => by
            rw [hH i (by omega), y3 i (by omega), hgs_ne (by omega), hgs_ne (by omega), y2 i (by omega)])
          have m2 : RpS h 22 n2 k2 u.l := hk2.mono (by omega) (by omega) (fun i hi1 hi2 => by
            rw [hH i (by omega), y3 i (by omega), hgs_ne (by omega), hgs_ne (by omega)])
          have st1 := size_eq t
          have su1 := size_eq u
          simp (disch := first | omega | (simp only [List.length_append, List.length_map, List.length_cons, List.length_nil, List.length_replicate, List.length_drop, List.length_take]; omega) | (simp only [hget_c, Nat.reduceEqDiff, ↓reduceIte]; done) | assumption | (simp (disch := omega) only [hg_ne, hg_eq, hgs_ne, *]; done) | (simp only [LAWSb]; done) | with_unfolding_all rfl) only [unf k3_4.eq_1, c3, LAWSb, f0, f1, f16, f17, same_lim, EV1, EV2, EV3, EV4, EV5, EV6, List.map_cons, List.map_nil, w_lp1, w_lp0, ca_0, ca_s, Nat.reduceAdd, Nat.reduceSub, Int.reduceToNat, Nat.reduceMul, Nat.reduceEqDiff, Nat.reduceLeDiff, Int.reduceEq, Int.reduceLT, Int.reduceLE, ↓reduceIte, List.length_cons, List.length_nil, List.getElem?_cons_zero, List.getElem?_cons_succ, if_true, if_false, Ck_pos, List.all_cons, List.all_nil, Bool.and_self, Bool.and_true, Bool.true_and, beq_self_eq_true, eq_self, Bool.not_true, Bool.not_false, decide_true, decide_false, and_self, true_and, and_true, List.drop_zero, List.drop_succ_cons, List.take_succ_cons, List.take_zero, List.take_nil, List.drop_nil, List.cons_append, List.nil_append, List.append_nil, Int.toNat_natCast, List.length_map, Nat.le_refl, Nat.zero_add, Nat.sub_zero, Nat.add_zero, take_full, List.replicate_succ, List.replicate_zero, List.set_cons_zero, List.set_cons_succ, Option.some.injEq, FV.bool.injEq, FV.int.injEq, most, deep, wrap64, wrapu64, wrapu8, wrapi8]
          simp only [B_B]
          refine Ok_ex (m1.frz (by omega)) fun v hq => ?_
          obtain ⟨e4, l4, hl4, rfl⟩ := hq
          have her4 : er (.mk t.k t.w t.b t.s t.lo e4 l4) = er t := by rw [er_eq t, er_eq, ← hl4]; rfl
          have c6 : ∀ h nx, isfR T c10 [.agg [.int .u8 t.k, .int .i64 t.w, .int .u64 t.b, .str t.s, .int .i64 t.lo, .lst e4 (l4.map tV)], .agg [.int .u8 (t).k, .int .i64 (t).w, .int .u64 (t).b, .str (t).s, .int .i64 (t).lo, .lst (t).e ((t).l.map tV)]] h nx = some (.bool true, h, nx) := by
            have := same_spec (.mk t.k t.w t.b t.s t.lo e4 l4) t (by rw [← size_er, her4, size_er]; omega) (by omega)
            rw [same_er _ _ her4] at this
            exact this
          simp (disch := first | omega | (simp only [List.length_append, List.length_map, List.length_cons, List.length_nil, List.length_replicate, List.length_drop, List.length_take]; omega) | (simp only [hget_c, Nat.reduceEqDiff, ↓reduceIte]; done) | assumption | (simp (disch := omega) only [hg_ne, hg_eq, hgs_ne, *]; done) | (simp only [LAWSb]; done) | with_unfolding_all rfl) only [c3, LAWSb, f0, f1, f16, f17, same_lim, c6, EV1, EV2, EV3, EV4, EV5, EV6, List.map_cons, List.map_nil, w_lp1, w_lp0, ca_0, ca_s, Nat.reduceAdd, Nat.reduceSub, Int.reduceToNat, Nat.reduceMul, Nat.reduceEqDiff, Nat.reduceLeDiff, Int.reduceEq, Int.reduceLT, Int.reduceLE, ↓reduceIte, List.length_cons, List.length_nil, List.getElem?_cons_zero, List.getElem?_cons_succ, if_true, if_false, Ck_pos, List.all_cons, List.all_nil, Bool.and_self, Bool.and_true, Bool.true_and, beq_self_eq_true, eq_self, Bool.not_true, Bool.not_false, decide_true, decide_false, and_self, true_and, and_true, List.drop_zero, List.drop_succ_cons, List.take_succ_cons, List.take_zero, List.take_nil, List.drop_nil, List.cons_append, List.nil_append, List.append_nil, Int.toNat_natCast, List.length_map, Nat.le_refl, Nat.zero_add, Nat.sub_zero, Nat.add_zero, take_full, List.replicate_succ, List.replicate_zero, List.set_cons_zero, List.set_cons_succ, Option.some.injEq, FV.bool.injEq, FV.int.injEq, most, deep, wrap64, wrapu64, wrapu8, wrapi8]
          simp only [B_B]
          refine Ok_ex (m2.frz (by omega)) fun v hq => ?_
          obtain ⟨e5, l5, hl5, rfl⟩ := hq
          have her5 : er (.mk u.k u.w u.b u.s u.lo e5 l5) = er u := by rw [er_eq u, er_eq, ← hl5]; rfl
          have c7 : ∀ h nx, isfR T c10 [.agg [.int .u8 u.k, .int .i64 u.w, .int .u64 u.b, .str u.s, .int .i64 u.lo, .lst e5 (l5.map tV)], .agg [.int .u8 (u).k, .int .i64 (u).w, .int .u64 (u).b, .str (u).s, .int .i64 (u).lo, .lst (u).e ((u).l.map tV)]] h nx = some (.bool true, h, nx) := by
            have := same_spec (.mk u.k u.w u.b u.s u.lo e5 l5) u (by rw [← size_er, her5, size_er]; omega) (by omega)
            rw [same_er _ _ her5] at this
            exact this
          simp (disch := first | omega | (simp only [List.length_append, List.length_map, List.length_cons, List.length_nil, List.length_replicate, List.length_drop, List.length_take]; omega) | (simp only [hget_c, Nat.reduceEqDiff, ↓reduceIte]; done) | assumption | (simp (disch := omega) only [hg_ne, hg_eq, hgs_ne, *]; done) | (simp only [LAWSb]; done) | with_unfolding_all rfl) only [c3, LAWSb, c7, EV1, EV2, EV3, EV4, EV5, EV6, List.map_cons, List.map_nil, w_lp1, w_lp0, ca_0, ca_s, Nat.reduceAdd, Nat.reduceSub, Int.reduceToNat, Nat.reduceMul, Nat.reduceEqDiff, Nat.reduceLeDiff, Int.reduceEq, Int.reduceLT, Int.reduceLE, ↓reduceIte, List.length_cons, List.length_nil, List.getElem?_cons_zero, List.getElem?_cons_succ, if_true, if_false, Ck_pos, List.all_cons, List.all_nil, Bool.and_self, Bool.and_true, Bool.true_and, beq_self_eq_true, eq_self, Bool.not_true, Bool.not_false, decide_true, decide_false, and_self, true_and, and_true, List.drop_zero, List.drop_succ_cons, List.take_succ_cons, List.take_zero, List.take_nil, List.drop_nil, List.cons_append, List.nil_append, List.append_nil, Int.toNat_natCast, List.length_map, Nat.le_refl, Nat.zero_add, Nat.sub_zero, Nat.add_zero, take_full, List.replicate_succ, List.replicate_zero, List.set_cons_zero, List.set_cons_succ, Option.some.injEq, FV.bool.injEq, FV.int.injEq, most, deep, wrap64, wrapu64, wrapu8, wrapi8]
        have sbl : ∀ x ∈ (substT t u n).l, x.l.length ≤ 1000000 := fun x hx => by
          have h1 := size_mem hx
          have h2 := sizes_len x.l
          have h3 := size_eq x
          omega
        have sll := sizes_len (substT t u n).l
        have hk4 : RpS ((n3 + 7, Obj.row 6 [.agg [.int .u8 (A).k, .int .i64 (A).w, .int .u64 (A).b, .str (A).s, .int .i64 (A).lo, .lst (A).e ((A).l.map tV)]]) :: (n2 + 7, Obj.row 6 [.agg [.int .u8 (substT t u n).k, .int .i64 (substT t u n).w, .int .u64 (substT t u n).b, .str (substT t u n).s, .int .i64 (substT t u n).lo, k3]]) :: h3) (n2 + 10) n3 k3 (substT t u n).l :=
          hk3.mono (by omega) (by omega) (fun i hi1 hi2 => by rw [hg_ne (by omega), hg_ne (by omega)])
        have hl1 := RpS.lv1 (by omega) sbl hk4
        rcases hk3 with ⟨e, rfl, _⟩ | ⟨id, xs, rfl, i1, i2, _, _⟩
        · have hz : decide ((0 : Int) < ((0 : Nat) : Int)) = false := rfl
          simp (disch := first | omega | (simp only [List.length_append, List.length_map, List.length_cons, List.length_nil, List.length_replicate, List.length_drop, List.length_take]; omega) | (simp only [hget_c, Nat.reduceEqDiff, ↓reduceIte]; done) | assumption | (simp (disch := omega) only [hg_ne, hg_eq, hgs_ne, *]; done) | (simp only [LAWSb]; done) | with_unfolding_all rfl) only [unf b3_3.eq_1, c3, LAWSb, hz, EV1, EV2, EV3, EV4, EV5, EV6, List.map_cons, List.map_nil, w_lp1, w_lp0, ca_0, ca_s, Nat.reduceAdd, Nat.reduceSub, Int.reduceToNat, Nat.reduceMul, Nat.reduceEqDiff, Nat.reduceLeDiff, Int.reduceEq, Int.reduceLT, Int.reduceLE, ↓reduceIte, List.length_cons, List.length_nil, List.getElem?_cons_zero, List.getElem?_cons_succ, if_true, if_false, Ck_pos, List.all_cons, List.all_nil, Bool.and_self, Bool.and_true, Bool.true_and, beq_self_eq_true, eq_self, Bool.not_true, Bool.not_false, decide_true, decide_false, and_self, true_and, and_true, List.drop_zero, List.drop_succ_cons, List.take_succ_cons, List.take_zero, List.take_nil, List.drop_nil, List.cons_append, List.nil_append, List.append_nil, Int.toNat_natCast, List.length_map, Nat.le_refl, Nat.zero_add, Nat.sub_zero, Nat.add_zero, take_full, List.replicate_succ, List.replicate_zero, List.set_cons_zero, List.set_cons_succ, Option.some.injEq, FV.bool.injEq, FV.int.injEq, most, deep, wrap64, wrapu64, wrapu8, wrapi8]
          exact fin _ _ 0 (fun i hi => rfl)
        · exact outer_loop _ (n2 + 7) (n2 + 10) n3 id (substT t u n).l.length _ _ _ _ _ (by omega) (by rw [hg_ne (by omega)]; exact hg_eq) i1 (by omega) _ (fun h nx hJ => fin h nx _ hJ) (substT t u n).l.length 0 _ _ (by omega) (fun i hi => rfl) hl1
end Go.Proofs.YtkobnfjeehnhlaaDoor.Fi
