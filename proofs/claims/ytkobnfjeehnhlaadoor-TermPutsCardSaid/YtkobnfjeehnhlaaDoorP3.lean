/- Parts of the proof, after each other. -/
import Derived.Test.YtkobnfjeehnhlaaDoorP2
import Derived.Test.YtkobnfjeehnhlaaDoorFIRep
import Derived.Test.YtkobnfjeehnhlaaDoorFIPut
set_option linter.all false
set_option linter.unusedSimpArgs false
set_option linter.unusedVariables false
set_option linter.unusedSectionVars false
namespace Go.Proofs.YtkobnfjeehnhlaaDoor.Fi
open Go.FI

/-! Copies. -/
def TwR (h : Heap) (nx : Nat) (t : Te) (r : FV × Heap × Nat) : Prop := RpT r.2.1 nx r.2.2 r.1 t ∧ Ext h r.2.1 nx r.2.2
theorem twin_loop (t : Te) (hl : t.l.length ≤ 1000000) (h0 : Heap) (b : Nat) (ih : ∀ x ∈ t.l, ∀ h nx, ∃ r, lim T 11 [.agg [.int .u8 (x).k, .int .i64 (x).w, .int .u64 (x).b, .str (x).s, .int .i64 (x).lo, .lst (x).e ((x).l.map tV)]] h nx = some r ∧ TwR h nx x r) : ∀ (k i : Nat) (xs : List FV) (h : Heap) (nx : Nat), i + k = t.l.length → b + 3 ≤ nx → (∀ j, j < b → hget h j = hget h0 j) → hget h b = some (.row 6 [.agg [.int .u8 (t).k, .int .i64 (t).w, .int .u64 (t).b, .str (t).s, .int .i64 (t).lo, .lst (t).e ((t).l.map tV)]]) → (∃ z0 z1 z2 z3 z4 z5, hget h (b + 1) = some (.row 6 [.agg [z0, z1, z2, z3, z4, z5]])) → hget h (b + 2) = some (.row 6 xs) → RpL h (b + 3) nx xs (t.l.take i) →
    @Ok Out (runs T [.code b11_0, .inL none b11_0, .inB 0, .code k11_1] [(1, .ptr b 1 0 0), (2, .ptr (b + 1) 1 0 0), (3, .sref 6 (b + 2) i 0 i), (7, .lst t.e (t.l.map tV)), (8, .int .i64 t.l.length), (9, .int .i64 i)] h nx)
      ⟨fun x => @Ok FV (finV c11.res x) ⟨fun v => TwR h0 b t (v, x.2.2.1, x.2.2.2)⟩⟩ := by
  intro k
  induction k with
  | zero =>
    intro i xs h nx hi hb hx q0 q1 q2 hr
    obtain ⟨z0, z1, z2, z3, z4, z5, q1⟩ := q1
    have : ¬ (i : Int) < t.l.length := by omega
    have hil : i = t.l.length := by omega
    rw [List.take_of_length_le (by omega)] at hr
    simp (disch := first | omega | (simp only [List.length_append, List.length_map, List.length_cons, List.length_nil, List.length_replicate, List.length_drop, List.length_take]; omega) | (simp only [hget_c, Nat.reduceEqDiff, ↓reduceIte]; done) | assumption | (simp (disch := omega) only [hg_ne, hg_eq, hgs_ne, *]; done) | (simp only [LAWSb]; done) | with_unfolding_all rfl) only [unf b11_0.eq_1, unf k11_1.eq_1, c11, this, LAWSb, q0, q1, hgs_ne, hgx_e, Option.map_some, EV1, EV2, EV3, EV4, EV5, EV6, List.map_cons, List.map_nil, w_lp1, w_lp0, ca_0, ca_s, Nat.reduceAdd, Nat.reduceSub, Int.reduceToNat, Nat.reduceMul, Nat.reduceEqDiff, Nat.reduceLeDiff, Int.reduceEq, Int.reduceLT, Int.reduceLE, ↓reduceIte, List.length_cons, List.length_nil, List.getElem?_cons_zero, List.getElem?_cons_succ, if_true, if_false, Ck_pos, List.all_cons, List.all_nil, Bool.and_self, Bool.and_true, Bool.true_and, beq_self_eq_true, eq_self, Bool.not_true, Bool.not_false, decide_true, decide_false, and_self, true_and, and_true, List.drop_zero, List.drop_succ_cons, List.take_succ_cons, List.take_zero, List.take_nil, List.drop_nil, List.cons_append, List.nil_append, List.append_nil, Int.toNat_natCast, List.length_map, Nat.le_refl, Nat.zero_add, Nat.sub_zero, Nat.add_zero, take_full, List.replicate_succ, List.replicate_zero, List.set_cons_zero, List.set_cons_succ, Option.some.injEq, FV.bool.injEq, FV.int.injEq, most, deep, wrap64, wrapu64, wrapu8, wrapi8]
    subst hil
    refine ⟨RpT_iff.2 ⟨_, rfl, .inr ⟨b + 2, xs, rfl, by omega, by dsimp only; omega, by (simp (disch := omega) only [hg_ne, hg_eq, hgs_ne, hgx_e, Option.map_some, *]), hr.mono (by omega) (by dsimp only; omega) (fun j hj1 hj2 => by simp (disch := omega) only [hgs_ne])⟩⟩, by dsimp only; omega, fun j hj => by simp (disch := omega) only [hgs_ne]; exact hx j hj⟩
  | succ k ihk =>
    intro i xs h nx hi hb hx q0 q1 q2 hr
    have : (i : Int) < t.l.length := by omega
    have hlen := hr.length
    rw [List.length_take] at hlen
    simp (disch := first | omega | (simp only [List.length_append, List.length_map, List.length_cons, List.length_nil, List.length_replicate, List.length_drop, List.length_take]; omega) | (simp only [hget_c, Nat.reduceEqDiff, ↓reduceIte]; done) | assumption | (simp (disch := omega) only [hg_ne, hg_eq, hgs_ne, *]; done) | (simp only [LAWSb]; done) | with_unfolding_all rfl) only [unf b11_0.eq_1, c11, this, LAWSb, EV1, EV2, EV3, EV4, EV5, EV6, List.map_cons, List.map_nil, w_lp1, w_lp0, ca_0, ca_s, Nat.reduceAdd, Nat.reduceSub, Int.reduceToNat, Nat.reduceMul, Nat.reduceEqDiff, Nat.reduceLeDiff, Int.reduceEq, Int.reduceLT, Int.reduceLE, ↓reduceIte, List.length_cons, List.length_nil, List.getElem?_cons_zero, List.getElem?_cons_succ, if_true, if_false, Ck_pos, List.all_cons, List.all_nil, Bool.and_self, Bool.and_true, Bool.true_and, beq_self_eq_true, eq_self, Bool.not_true, Bool.not_false, decide_true, decide_false, and_self, true_and, and_true, List.drop_zero, List.drop_succ_cons, List.take_succ_cons, List.take_zero, List.take_nil, List.drop_nil, List.cons_append, List.nil_append, List.append_nil, Int.toNat_natCast, List.length_map, Nat.le_refl, Nat.zero_add, Nat.sub_zero, Nat.add_zero, take_full, List.replicate_succ, List.replicate_zero, List.set_cons_zero, List.set_cons_succ, Option.some.injEq, FV.bool.injEq, FV.int.injEq, most, deep, wrap64, wrapu64, wrapu8, wrapi8]
    refine Ok_call (ih _ (getD_mem (d := default) (show i < t.l.length by omega)) _ _) fun r hr' => ?_
    obtain ⟨v, h', nx'⟩ := r
    obtain ⟨hv, hx1, hx2⟩ := hr'
    dsimp only at hv hx1 hx2
    obtain ⟨c, rfl, hc⟩ := RpT_iff.1 hv
    refine ⟨rfl, ?_⟩
    have g2 : hget h' (b + 2) = some (.row 6 xs) := by rw [hx2 _ (by omega), hg_ne (by omega)]; exact q2
    have cok : c.one = true ∧ c.cells.length = 1 := by
      rcases hc with ⟨e, rfl, _⟩ | ⟨id, xs, rfl, _⟩ <;> exact ⟨rfl, rfl⟩
    simp (disch := first | omega | (simp only [List.length_append, List.length_map, List.length_cons, List.length_nil, List.length_replicate, List.length_drop, List.length_take]; omega) | (simp only [hget_c, Nat.reduceEqDiff, ↓reduceIte]; done) | assumption | (simp (disch := omega) only [hg_ne, hg_eq, hgs_ne, *]; done) | (simp only [LAWSb]; done) | with_unfolding_all rfl) only [c11, LAWSb, g2, cok.1, EV1, EV2, EV3, EV4, EV5, EV6, List.map_cons, List.map_nil, w_lp1, w_lp0, ca_0, ca_s, Nat.reduceAdd, Nat.reduceSub, Int.reduceToNat, Nat.reduceMul, Nat.reduceEqDiff, Nat.reduceLeDiff, Int.reduceEq, Int.reduceLT, Int.reduceLE, ↓reduceIte, List.length_cons, List.length_nil, List.getElem?_cons_zero, List.getElem?_cons_succ, if_true, if_false, Ck_pos, List.all_cons, List.all_nil, Bool.and_self, Bool.and_true, Bool.true_and, beq_self_eq_true, eq_self, Bool.not_true, Bool.not_false, decide_true, decide_false, and_self, true_and, and_true, List.drop_zero, List.drop_succ_cons, List.take_succ_cons, List.take_zero, List.take_nil, List.drop_nil, List.cons_append, List.nil_append, List.append_nil, Int.toNat_natCast, List.length_map, Nat.le_refl, Nat.zero_add, Nat.sub_zero, Nat.add_zero, take_full, List.replicate_succ, List.replicate_zero, List.set_cons_zero, List.set_cons_succ, Option.some.injEq, FV.bool.injEq, FV.int.injEq, most, deep, wrap64, wrapu64, wrapu8, wrapi8]
    obtain ⟨z0, z1, z2, z3, z4, z5, q1⟩ := q1
    refine Ok_inL0 (ihk (i + 1) (xs ++ [.agg [.int .u8 (t.l.getD i default).k, .int .i64 (t.l.getD i default).w, .int .u64 (t.l.getD i default).b, .str (t.l.getD i default).s, .int .i64 (t.l.getD i default).lo, c]]) _ _ (by omega) (by omega) (fun j hj => ?_) ?_ ⟨z0, z1, z2, z3, z4, z5, ?_⟩ ?_ ?_)
    · rw [hg_ne (by omega), hgs_ne (by omega), hx2 _ (by omega), hg_ne (by omega)]; exact hx j hj
    · rw [hg_ne (by omega), hgs_ne (by omega), hx2 _ (by omega), hg_ne (by omega)]; exact q0
    · rw [hg_ne (by omega), hgs_ne (by omega), hx2 _ (by omega), hg_ne (by omega)]; exact q1
    · rw [hg_ne (by omega)]; exact hgs_eq g2
    · rw [take_succ (by omega)]
      refine RpL.app (ys := [_]) (m := [_]) ⟨hv.mono (by omega) (by omega) (fun j hj1 hj2 => by rw [hg_ne (by omega), hgs_ne (by omega)]), trivial⟩ (hr.mono (by omega) (by omega) (fun j hj1 hj2 => by rw [hg_ne (by omega), hgs_ne (by omega), hx2 _ (by omega), hg_ne (by omega)]))
theorem twin_spec (t : Te) (hl : size t ≤ 1000000) : ∀ h nx, ∃ r, lim T 11 [.agg [.int .u8 (t).k, .int .i64 (t).w, .int .u64 (t).b, .str (t).s, .int .i64 (t).lo, .lst (t).e ((t).l.map tV)]] h nx = some r ∧ TwR h nx t r := by
  induction t using Tm'.ind with
  | h t ih =>
  have hsz := sizes_len t.l
  have hse := size_eq t
  intro h nx
  rw [lim_shr tg11 rfl rfl]
  suffices hh : @Ok Out (runs T [.code c11.body] (params 0 [.agg [.int .u8 (t).k, .int .i64 (t).w, .int .u64 (t).b, .str (t).s, .int .i64 (t).lo, .lst (t).e ((t).l.map tV)]]) h nx) ⟨fun x => @Ok FV (finV c11.res x) ⟨fun v => TwR h nx t (v, x.2.2.1, x.2.2.2)⟩⟩ by
    obtain ⟨x, h1, v, h2, h3⟩ := hh
    exact ⟨(v, x.2.2.1, x.2.2.2), by rw [h1, B_some, h2, B_some], h3⟩
  simp (disch := first | omega | (simp only [List.length_append, List.length_map, List.length_cons, List.length_nil, List.length_replicate, List.length_drop, List.length_take]; omega) | (simp only [hget_c, Nat.reduceEqDiff, ↓reduceIte]; done) | assumption | (simp (disch := omega) only [hg_ne, hg_eq, hgs_ne, *]; done) | (simp only [LAWSb]; done) | with_unfolding_all rfl) only [c11, LAWSb, EV1, EV2, EV3, EV4, EV5, EV6, List.map_cons, List.map_nil, w_lp1, w_lp0, ca_0, ca_s, Nat.reduceAdd, Nat.reduceSub, Int.reduceToNat, Nat.reduceMul, Nat.reduceEqDiff, Nat.reduceLeDiff, Int.reduceEq, Int.reduceLT, Int.reduceLE, ↓reduceIte, List.length_cons, List.length_nil, List.getElem?_cons_zero, List.getElem?_cons_succ, if_true, if_false, Ck_pos, List.all_cons, List.all_nil, Bool.and_self, Bool.and_true, Bool.true_and, beq_self_eq_true, eq_self, Bool.not_true, Bool.not_false, decide_true, decide_false, and_self, true_and, and_true, List.drop_zero, List.drop_succ_cons, List.take_succ_cons, List.take_zero, List.take_nil, List.drop_nil, List.cons_append, List.nil_append, List.append_nil, Int.toNat_natCast, List.length_map, Nat.le_refl, Nat.zero_add, Nat.sub_zero, Nat.add_zero, take_full, List.replicate_succ, List.replicate_zero, List.set_cons_zero, List.set_cons_succ, Option.some.injEq, FV.bool.injEq, FV.int.injEq, most, deep, wrap64, wrapu64, wrapu8, wrapi8]
  exact twin_loop t (by omega) h nx (fun x hx => ih x hx (by have := size_mem hx; omega)) t.l.length 0 [] _ _ (by omega) (by omega) (fun j hj => by rw [hg_ne (by omega), hg_ne (by omega), hg_ne (by omega)]) (by rw [hg_ne (by omega), hg_ne (by omega)]; exact hg_eq) ⟨_, _, _, _, _, _, by rw [hg_ne (by omega)]; exact hg_eq⟩ hg_eq (by rw [List.take_zero]; trivial)
theorem rTwin_loop (t : Te) (hl : t.l.length ≤ 1000000) (h0 : Heap) (b : Nat) (ih : ∀ x ∈ t.l, ∀ h nx, ∃ r, lim T 7 [.agg [.int .u8 (x).k, .int .i64 (x).w, .int .u64 (x).b, .str (x).s, .int .i64 (x).lo, .lst (x).e ((x).l.map tV)]] h nx = some r ∧ TwR h nx x r) : ∀ (k i : Nat) (c : FV) (h : Heap) (nx : Nat), i + k = t.l.length → b + 16 ≤ nx → (∀ j, j < b → hget h j = hget h0 j) → hget h b = some (.row 6 [.agg [.int .u8 (t).k, .int .i64 (t).w, .int .u64 (t).b, .str (t).s, .int .i64 (t).lo, .lst (t).e ((t).l.map tV)]]) → (∃ z0 z1 z2 z3 z4 z5, hget h (b + 1) = some (.row 6 [.agg [z0, z1, z2, z3, z4, z5]])) → hget h (b + 13) = some (.row 6 [.agg [.int .u8 t.k, .int .i64 t.w, .int .u64 t.b, .str t.s, .int .i64 t.lo, c]]) → ((c = .lst true [] ∧ i = 0) ∨ ∃ id xs, c = .sref 6 id i 0 i ∧ b + 14 ≤ id ∧ id < nx ∧ 0 < i ∧ hget h id = some (.row 6 xs) ∧ RpL h (id + 1) nx xs (t.l.take i)) →
    @Ok Out (runs T [.code b7_0, .inL none b7_0, .inB 0, .code k7_1] [(1, .ptr b 1 0 0), (2, .ptr (b + 1) 1 0 0), (3, .ptr (b + 13) 1 0 0), (4, .int .i64 i)] h nx)
      ⟨fun x => @Ok FV (finV c7.res x) ⟨fun v => TwR h0 b t (v, x.2.2.1, x.2.2.2)⟩⟩ := by
  intro k
  induction k with
  | zero =>
    intro i c h nx hi hb hx q0 q1 q2 hr
    obtain ⟨z0, z1, z2, z3, z4, z5, q1⟩ := q1
    have : ¬ (i : Int) < t.l.length := by omega
    have hil : i = t.l.length := by omega
    have cok : c.one = true ∧ c.cells.length = 1 := by
      rcases hr with ⟨rfl, _⟩ | ⟨id, xs, rfl, _⟩ <;> exact ⟨rfl, rfl⟩
    simp (disch := first | omega | (simp only [List.length_append, List.length_map, List.length_cons, List.length_nil, List.length_replicate, List.length_drop, List.length_take]; omega) | (simp only [hget_c, Nat.reduceEqDiff, ↓reduceIte]; done) | assumption | (simp (disch := omega) only [hg_ne, hg_eq, hgs_ne, *]; done) | (simp only [LAWSb]; done) | with_unfolding_all rfl) only [unf b7_0.eq_1, unf k7_1.eq_1, c7, this, LAWSb, q0, q1, q2, cok.1, hgs_ne, hgx_e, Option.map_some, EV1, EV2, EV3, EV4, EV5, EV6, List.map_cons, List.map_nil, w_lp1, w_lp0, ca_0, ca_s, Nat.reduceAdd, Nat.reduceSub, Int.reduceToNat, Nat.reduceMul, Nat.reduceEqDiff, Nat.reduceLeDiff, Int.reduceEq, Int.reduceLT, Int.reduceLE, ↓reduceIte, List.length_cons, List.length_nil, List.getElem?_cons_zero, List.getElem?_cons_succ, if_true, if_false, Ck_pos, List.all_cons, List.all_nil, Bool.and_self, Bool.and_true, Bool.true_and, beq_self_eq_true, eq_self, Bool.not_true, Bool.not_false, decide_true, decide_false, and_self, true_and, and_true, List.drop_zero, List.drop_succ_cons, List.take_succ_cons, List.take_zero, List.take_nil, List.drop_nil, List.cons_append, List.nil_append, List.append_nil, Int.toNat_natCast, List.length_map, Nat.le_refl, Nat.zero_add, Nat.sub_zero, Nat.add_zero, take_full, List.replicate_succ, List.replicate_zero, List.set_cons_zero, List.set_cons_succ, Option.some.injEq, FV.bool.injEq, FV.int.injEq, most, deep, wrap64, wrapu64, wrapu8, wrapi8]
    subst hil
    refine ⟨RpT_iff.2 ⟨_, rfl, ?_⟩, by dsimp only; omega, fun j hj => by simp (disch := omega) only [hgs_ne]; exact hx j hj⟩
    rcases hr with ⟨rfl, h0⟩ | ⟨id, xs, rfl, hid, hid2, h0i, g, hr⟩
    · exact .inl ⟨true, rfl, List.length_eq_zero_iff.1 h0⟩
    · rw [List.take_of_length_le (by omega)] at hr
      exact .inr ⟨id, xs, rfl, by omega, by dsimp only; omega, by rw [hgs_ne (by omega)]; exact g, hr.mono (by omega) (by dsimp only; omega) (fun j hj1 hj2 => by rw [hgs_ne (by omega)])⟩
  | succ k ihk =>
    intro i c h nx hi hb hx q0 q1 q2 hr
    have : (i : Int) < t.l.length := by omega
    rcases hr with ⟨rfl, rfl⟩ | ⟨id, xs, rfl, hid, hid2, h0i, g, hr⟩
    · simp (disch := first | omega | (simp only [List.length_append, List.length_map, List.length_cons, List.length_nil, List.length_replicate, List.length_drop, List.length_take]; omega) | (simp only [hget_c, Nat.reduceEqDiff, ↓reduceIte]; done) | assumption | (simp (disch := omega) only [hg_ne, hg_eq, hgs_ne, *]; done) | (simp only [LAWSb]; done) | with_unfolding_all rfl) only [unf b7_0.eq_1, c7, this, LAWSb, q0, q1, q2, EV1, EV2, EV3, EV4, EV5, EV6, List.map_cons, List.map_nil, w_lp1, w_lp0, ca_0, ca_s, Nat.reduceAdd, Nat.reduceSub, Int.reduceToNat, Nat.reduceMul, Nat.reduceEqDiff, Nat.reduceLeDiff, Int.reduceEq, Int.reduceLT, Int.reduceLE, ↓reduceIte, List.length_cons, List.length_nil, List.getElem?_cons_zero, List.getElem?_cons_succ, if_true, if_false, Ck_pos, List.all_cons, List.all_nil, Bool.and_self, Bool.and_true, Bool.true_and, beq_self_eq_true, eq_self, Bool.not_true, Bool.not_false, decide_true, decide_false, and_self, true_and, and_true, List.drop_zero, List.drop_succ_cons, List.take_succ_cons, List.take_zero, List.take_nil, List.drop_nil, List.cons_append, List.nil_append, List.append_nil, Int.toNat_natCast, List.length_map, Nat.le_refl, Nat.zero_add, Nat.sub_zero, Nat.add_zero, take_full, List.replicate_succ, List.replicate_zero, List.set_cons_zero, List.set_cons_succ, Option.some.injEq, FV.bool.injEq, FV.int.injEq, most, deep, wrap64, wrapu64, wrapu8, wrapi8]
      refine Ok_call (ih _ (getD_mem (d := default) (show 0 < t.l.length by omega)) _ _) fun r hr' => ?_
      obtain ⟨v, h', nx'⟩ := r
      obtain ⟨hv, hx1, hx2⟩ := hr'
      dsimp only at hv hx1 hx2
      obtain ⟨c, rfl, hc⟩ := RpT_iff.1 hv
      refine ⟨rfl, ?_⟩
      have cok : c.one = true ∧ c.cells.length = 1 := by
        rcases hc with ⟨e, rfl, _⟩ | ⟨id, xs, rfl, _⟩ <;> exact ⟨rfl, rfl⟩
      have g0 : hget h' b = some (.row 6 [.agg [.int .u8 (t).k, .int .i64 (t).w, .int .u64 (t).b, .str (t).s, .int .i64 (t).lo, .lst (t).e ((t).l.map tV)]]) := (hx2 _ (by omega)).trans q0
      have g2 := (hx2 (b + 13) (by omega)).trans q2
      simp (disch := first | omega | (simp only [List.length_append, List.length_map, List.length_cons, List.length_nil, List.length_replicate, List.length_drop, List.length_take]; omega) | (simp only [hget_c, Nat.reduceEqDiff, ↓reduceIte]; done) | assumption | (simp (disch := omega) only [hg_ne, hg_eq, hgs_ne, *]; done) | (simp only [LAWSb]; done) | with_unfolding_all rfl) only [c7, LAWSb, g0, g2, cok.1, EV1, EV2, EV3, EV4, EV5, EV6, List.map_cons, List.map_nil, w_lp1, w_lp0, ca_0, ca_s, Nat.reduceAdd, Nat.reduceSub, Int.reduceToNat, Nat.reduceMul, Nat.reduceEqDiff, Nat.reduceLeDiff, Int.reduceEq, Int.reduceLT, Int.reduceLE, ↓reduceIte, List.length_cons, List.length_nil, List.getElem?_cons_zero, List.getElem?_cons_succ, if_true, if_false, Ck_pos, List.all_cons, List.all_nil, Bool.and_self, Bool.and_true, Bool.true_and, beq_self_eq_true, eq_self, Bool.not_true, Bool.not_false, decide_true, decide_false, and_self, true_and, and_true, List.drop_zero, List.drop_succ_cons, List.take_succ_cons, List.take_zero, List.take_nil, List.drop_nil, List.cons_append, List.nil_append, List.append_nil, Int.toNat_natCast, List.length_map, Nat.le_refl, Nat.zero_add, Nat.sub_zero, Nat.add_zero, take_full, List.replicate_succ, List.replicate_zero, List.set_cons_zero, List.set_cons_succ, Option.some.injEq, FV.bool.injEq, FV.int.injEq, most, deep, wrap64, wrapu64, wrapu8, wrapi8]
      obtain ⟨z0, z1, z2, z3, z4, z5, q1⟩ := q1
      refine Ok_inL0 (ihk 1 _ _ _ (by omega) (by omega) (fun j hj => ?_) ?_ ⟨z0, z1, z2, z3, z4, z5, ?_⟩ ?_ (.inr ⟨_, _, rfl, ?_, ?_, by omega, hg_eq, ?_⟩))
      · rw [hg_ne (by omega), hg_ne (by omega), hgs_ne (by omega), hx2 _ (by omega)]; exact hx j hj
      · rw [hg_ne (by omega), hg_ne (by omega), hgs_ne (by omega)]; exact g0
      · rw [hg_ne (by omega), hg_ne (by omega), hgs_ne (by omega), hx2 _ (by omega)]; exact q1
      · rw [hg_ne (by omega), hg_ne (by omega)]; exact hgs_eq g2
      · omega
      · omega
      · rw [show t.l.take 1 = [t.l.getD 0 default] by rw [take_succ (by omega)]; simp]
        exact ⟨hv.mono (by omega) (by omega) (fun j hj1 hj2 => by rw [hg_ne (by omega), hg_ne (by omega), hgs_ne (by omega)]), trivial⟩
    · simp (disch := first | omega | (simp only [List.length_append, List.length_map, List.length_cons, List.length_nil, List.length_replicate, List.length_drop, List.length_take]; omega) | (simp only [hget_c, Nat.reduceEqDiff, ↓reduceIte]; done) | assumption | (simp (disch := omega) only [hg_ne, hg_eq, hgs_ne, *]; done) | (simp only [LAWSb]; done) | with_unfolding_all rfl) only [unf b7_0.eq_1, c7, this, LAWSb, q0, q1, q2, EV1, EV2, EV3, EV4, EV5, EV6, List.map_cons, List.map_nil, w_lp1, w_lp0, ca_0, ca_s, Nat.reduceAdd, Nat.reduceSub, Int.reduceToNat, Nat.reduceMul, Nat.reduceEqDiff, Nat.reduceLeDiff, Int.reduceEq, Int.reduceLT, Int.reduceLE, ↓reduceIte, List.length_cons, List.length_nil, List.getElem?_cons_zero, List.getElem?_cons_succ, if_true, if_false, Ck_pos, List.all_cons, List.all_nil, Bool.and_self, Bool.and_true, Bool.true_and, beq_self_eq_true, eq_self, Bool.not_true, Bool.not_false, decide_true, decide_false, and_self, true_and, and_true, List.drop_zero, List.drop_succ_cons, List.take_succ_cons, List.take_zero, List.take_nil, List.drop_nil, List.cons_append, List.nil_append, List.append_nil, Int.toNat_natCast, List.length_map, Nat.le_refl, Nat.zero_add, Nat.sub_zero, Nat.add_zero, take_full, List.replicate_succ, List.replicate_zero, List.set_cons_zero, List.set_cons_succ, Option.some.injEq, FV.bool.injEq, FV.int.injEq, most, deep, wrap64, wrapu64, wrapu8, wrapi8]
      refine Ok_call (ih _ (getD_mem (d := default) (show i < t.l.length by omega)) _ _) fun r hr' => ?_
      obtain ⟨v, h', nx'⟩ := r
      obtain ⟨hv, hx1, hx2⟩ := hr'
      dsimp only at hv hx1 hx2
      obtain ⟨c, rfl, hc⟩ := RpT_iff.1 hv
      refine ⟨rfl, ?_⟩
      have cok : c.one = true ∧ c.cells.length = 1 := by
        rcases hc with ⟨e, rfl, _⟩ | ⟨id, xs, rfl, _⟩ <;> exact ⟨rfl, rfl⟩
      have g0 : hget h' b = some (.row 6 [.agg [.int .u8 (t).k, .int .i64 (t).w, .int .u64 (t).b, .str (t).s, .int .i64 (t).lo, .lst (t).e ((t).l.map tV)]]) := (hx2 _ (by omega)).trans q0
      have g2 := (hx2 (b + 13) (by omega)).trans q2
      have g := (hx2 id (by omega)).trans g
      have hlen : xs.length = i := by have := hr.length; rw [List.length_take] at this; omega
      simp (disch := first | omega | (simp only [List.length_append, List.length_map, List.length_cons, List.length_nil, List.length_replicate, List.length_drop, List.length_take]; omega) | (simp only [hget_c, Nat.reduceEqDiff, ↓reduceIte]; done) | assumption | (simp (disch := omega) only [hg_ne, hg_eq, hgs_ne, *]; done) | (simp only [LAWSb]; done) | with_unfolding_all rfl) only [c7, LAWSb, g0, g2, g, cok.1, hgs_ne, hgx_e, Option.map_some, EV1, EV2, EV3, EV4, EV5, EV6, List.map_cons, List.map_nil, w_lp1, w_lp0, ca_0, ca_s, Nat.reduceAdd, Nat.reduceSub, Int.reduceToNat, Nat.reduceMul, Nat.reduceEqDiff, Nat.reduceLeDiff, Int.reduceEq, Int.reduceLT, Int.reduceLE, ↓reduceIte, List.length_cons, List.length_nil, List.getElem?_cons_zero, List.getElem?_cons_succ, if_true, if_false, Ck_pos, List.all_cons, List.all_nil, Bool.and_self, Bool.and_true, Bool.true_and, beq_self_eq_true, eq_self, Bool.not_true, Bool.not_false, decide_true, decide_false, and_self, true_and, and_true, List.drop_zero, List.drop_succ_cons, List.take_succ_cons, List.take_zero, List.take_nil, List.drop_nil, List.cons_append, List.nil_append, List.append_nil, Int.toNat_natCast, List.length_map, Nat.le_refl, Nat.zero_add, Nat.sub_zero, Nat.add_zero, take_full, List.replicate_succ, List.replicate_zero, List.set_cons_zero, List.set_cons_succ, Option.some.injEq, FV.bool.injEq, FV.int.injEq, most, deep, wrap64, wrapu64, wrapu8, wrapi8]
      obtain ⟨z0, z1, z2, z3, z4, z5, q1⟩ := q1
      refine Ok_inL0 (ihk (i + 1) _ _ _ (by omega) (by omega) (fun j hj => ?_) ?_ ⟨z0, z1, z2, z3, z4, z5, ?_⟩ ?_ (.inr ⟨id, xs ++ [.agg [.int .u8 (t.l.getD i default).k, .int .i64 (t.l.getD i default).w, .int .u64 (t.l.getD i default).b, .str (t.l.getD i default).s, .int .i64 (t.l.getD i default).lo, c]], rfl, by omega, by omega, by omega, ?_, ?_⟩))
      · rw [hg_ne (by omega), hgs_ne (by omega), hgs_ne (by omega), hx2 _ (by omega)]; exact hx j hj
      · rw [hg_ne (by omega), hgs_ne (by omega), hgs_ne (by omega)]; exact g0
      · rw [hg_ne (by omega), hgs_ne (by omega), hgs_ne (by omega), hx2 _ (by omega)]; exact q1
      · rw [hg_ne (by omega)]
        refine hgs_eq (q := .row 6 [.agg [.int .u8 t.k, .int .i64 t.w, .int .u64 t.b, .str t.s, .int .i64 t.lo, .sref 6 id i 0 i]]) ?_
        rw [hgs_ne (by omega)]; exact g2
      · rw [hg_ne (by omega), hgs_ne (by omega)]; exact hgs_eq g
      · rw [take_succ (by omega)]
        refine RpL.app (ys := [_]) (m := [_]) ⟨hv.mono (by omega) (by omega) (fun j hj1 hj2 => by rw [hg_ne (by omega), hgs_ne (by omega), hgs_ne (by omega)]), trivial⟩ (hr.mono (by omega) (by omega) (fun j hj1 hj2 => by rw [hg_ne (by omega), hgs_ne (by omega), hgs_ne (by omega), hx2 _ (by omega)]))
theorem rTwin_spec (t : Te) (hl : size t ≤ 1000000) : ∀ h nx, ∃ r, lim T 7 [.agg [.int .u8 (t).k, .int .i64 (t).w, .int .u64 (t).b, .str (t).s, .int .i64 (t).lo, .lst (t).e ((t).l.map tV)]] h nx = some r ∧ TwR h nx t r := by
  induction t using Tm'.ind with
  | h t ih =>
  have hsz := sizes_len t.l
  have hse := size_eq t
  intro h nx
  rw [lim_shr tg7 rfl rfl]
  suffices hh : @Ok Out (runs T [.code c7.body] (params 0 [.agg [.int .u8 (t).k, .int .i64 (t).w, .int .u64 (t).b, .str (t).s, .int .i64 (t).lo, .lst (t).e ((t).l.map tV)]]) h nx) ⟨fun x => @Ok FV (finV c7.res x) ⟨fun v => TwR h nx t (v, x.2.2.1, x.2.2.2)⟩⟩ by
    obtain ⟨x, h1, v, h2, h3⟩ := hh
    exact ⟨(v, x.2.2.1, x.2.2.2), by rw [h1, B_some, h2, B_some], h3⟩
  simp (disch := first | omega | (simp only [List.length_append, List.length_map, List.length_cons, List.length_nil, List.length_replicate, List.length_drop, List.length_take]; omega) | (simp only [hget_c, Nat.reduceEqDiff, ↓reduceIte]; done) | assumption | (simp (disch := omega) only [hg_ne, hg_eq, hgs_ne, *]; done) | (simp only [LAWSb]; done) | with_unfolding_all rfl) only [c7, LAWSb, Nat.add_assoc, EV1, EV2, EV3, EV4, EV5, EV6, List.map_cons, List.map_nil, w_lp1, w_lp0, ca_0, ca_s, Nat.reduceAdd, Nat.reduceSub, Int.reduceToNat, Nat.reduceMul, Nat.reduceEqDiff, Nat.reduceLeDiff, Int.reduceEq, Int.reduceLT, Int.reduceLE, ↓reduceIte, List.length_cons, List.length_nil, List.getElem?_cons_zero, List.getElem?_cons_succ, if_true, if_false, Ck_pos, List.all_cons, List.all_nil, Bool.and_self, Bool.and_true, Bool.true_and, beq_self_eq_true, eq_self, Bool.not_true, Bool.not_false, decide_true, decide_false, and_self, true_and, and_true, List.drop_zero, List.drop_succ_cons, List.take_succ_cons, List.take_zero, List.take_nil, List.drop_nil, List.cons_append, List.nil_append, List.append_nil, Int.toNat_natCast, List.length_map, Nat.le_refl, Nat.zero_add, Nat.sub_zero, Nat.add_zero, take_full, List.replicate_succ, List.replicate_zero, List.set_cons_zero, List.set_cons_succ, Option.some.injEq, FV.bool.injEq, FV.int.injEq, most, deep, wrap64, wrapu64, wrapu8, wrapi8]
  exact rTwin_loop t (by omega) h nx (fun x hx => ih x hx (by have := size_mem hx; omega)) t.l.length 0 (.lst true []) _ _ (by omega) (by omega) (fun j hj => by rw [hg_ne (by omega), hg_ne (by omega), hg_ne (by omega)]) (by rw [hg_ne (by omega), hg_ne (by omega)]; exact hg_eq) ⟨_, _, _, _, _, _, by rw [hg_ne (by omega)]; exact hg_eq⟩ hg_eq (.inl ⟨rfl, rfl⟩)

/-! Substitution. -/
abbrev RepS (n : List UInt8) (u x : Te) : Prop := ∀ h nx, lim T 32 [.agg [.int .u8 (x).k, .int .i64 (x).w, .int .u64 (x).b, .str (x).s, .int .i64 (x).lo, .lst (x).e ((x).l.map tV)], .str n, .agg [.int .u8 (u).k, .int .i64 (u).w, .int .u64 (u).b, .str (u).s, .int .i64 (u).lo, .lst (u).e ((u).l.map tV)]] h nx = some (.agg [.int .u8 (putT n u x).k, .int .i64 (putT n u x).w, .int .u64 (putT n u x).b, .str (putT n u x).s, .int .i64 (putT n u x).lo, .lst (putT n u x).e ((putT n u x).l.map tV)], h, nx)
theorem lows_app' (b : Nat) (x y : List FV) : lows b (x ++ y) = (lows b x && lows b y) := by
  induction x with
  | nil => simp [lows]
  | cons v x ih => simp [lows, ih, Bool.and_assoc]
theorem lo_tm (b : Nat) (l : List Te) (f : Te → Te) (i : Nat) : lows b (((l.map f).take i).map tV) = true := lo_Ts b _
theorem map_getD {α : Type} [Inhabited α] (f : α → Te) {l : List α} {i : Nat} (h : i < l.length) : (l.map f).getD i default = f (l.getD i default) := by simp [List.getD, h]
theorem replaced_loop (n : List UInt8) (u t : Te) (hm : ¬ (t.k = 2 ∧ t.s = n)) (hl : t.l.length ≤ 1000000) (ih : ∀ x ∈ t.l, RepS n u x) : ∀ (k i : Nat), i + k = t.l.length →
    @Ok Out (runs T [.code b32_0, .inL (some 17) b32_0, .inB 0, .code k32_1] [(1, .str n), (3, .ptr 0 1 0 0), (5, .ptr 1 1 0 0), (6, .ptr 2 1 0 0), (7, .sref 6 12 i 0 i), (21, .lst t.e (t.l.map tV)), (22, .int .i64 t.l.length), (23, .int .i64 i)]
      [(12, .row 6 (((t.l.map (putT n u)).take i).map tV)), (2, .row 6 [.agg [.int .u8 0, .int .i64 0, .int .u64 0, .str [], .int .i64 0, .lst true []]]), (1, .row 6 [.agg [.int .u8 (u).k, .int .i64 (u).w, .int .u64 (u).b, .str (u).s, .int .i64 (u).lo, .lst (u).e ((u).l.map tV)]]), (0, .row 6 [.agg [.int .u8 (t).k, .int .i64 (t).w, .int .u64 (t).b, .str (t).s, .int .i64 (t).lo, .lst (t).e ((t).l.map tV)]])] 17) ⟨fun x => resV c32.res x = some (.agg [.int .u8 (putT n u t).k, .int .i64 (putT n u t).w, .int .u64 (putT n u t).b, .str (putT n u t).s, .int .i64 (putT n u t).lo, .lst (putT n u t).e ((putT n u t).l.map tV)])⟩ := by
  intro k
  induction k with
  | zero =>
    intro i hi
    have : ¬ (i : Int) < t.l.length := by omega
    have hil : i = t.l.length := by omega
    subst hil
    have hlen : (((t.l.map (putT n u)).take t.l.length).map tV).length = t.l.length := by simp
    simp (disch := first | omega | (simp only [List.length_append, List.length_map, List.length_cons, List.length_nil, List.length_replicate, List.length_drop, List.length_take]; omega) | (simp only [hget_c, Nat.reduceEqDiff, ↓reduceIte]; done) | assumption | (simp (disch := omega) only [hg_ne, hg_eq, hgs_ne, *]; done) | (simp only [LAWSb]; done) | with_unfolding_all rfl) only [unf b32_0.eq_1, unf k32_1.eq_1, c32, this, LAWSb, hlen, EV1, EV2, EV3, EV4, EV5, EV6, List.map_cons, List.map_nil, w_lp1, w_lp0, ca_0, ca_s, Nat.reduceAdd, Nat.reduceSub, Int.reduceToNat, Nat.reduceMul, Nat.reduceEqDiff, Nat.reduceLeDiff, Int.reduceEq, Int.reduceLT, Int.reduceLE, ↓reduceIte, List.length_cons, List.length_nil, List.getElem?_cons_zero, List.getElem?_cons_succ, if_true, if_false, Ck_pos, List.all_cons, List.all_nil, Bool.and_self, Bool.and_true, Bool.true_and, beq_self_eq_true, eq_self, Bool.not_true, Bool.not_false, decide_true, decide_false, and_self, true_and, and_true, List.drop_zero, List.drop_succ_cons, List.take_succ_cons, List.take_zero, List.take_nil, List.drop_nil, List.cons_append, List.nil_append, List.append_nil, Int.toNat_natCast, List.length_map, Nat.le_refl, Nat.zero_add, Nat.sub_zero, Nat.add_zero, take_full, List.replicate_succ, List.replicate_zero, List.set_cons_zero, List.set_cons_succ, Option.some.injEq, FV.bool.injEq, FV.int.injEq, most, deep, wrap64, wrapu64, wrapu8, wrapi8]
    rw [putT_eq, if_neg hm]
    simp only [Tm'.k, Tm'.w, Tm'.b, Tm'.s, Tm'.lo, Tm'.e, Tm'.l]
  | succ k ihk =>
    intro i hi
    have : (i : Int) < t.l.length := by omega
    have hx := ih _ (getD_mem (d := default) (show i < t.l.length by omega))
    have hlen : (((t.l.map (putT n u)).take i).map tV).length = i := by simp; omega
    simp (disch := first | omega | (simp only [List.length_append, List.length_map, List.length_cons, List.length_nil, List.length_replicate, List.length_drop, List.length_take]; omega) | (simp only [hget_c, Nat.reduceEqDiff, ↓reduceIte]; done) | assumption | (simp (disch := omega) only [hg_ne, hg_eq, hgs_ne, *]; done) | (simp only [LAWSb]; done) | with_unfolding_all rfl) only [unf b32_0.eq_1, c32, this, LAWSb, hx, hlen, EV1, EV2, EV3, EV4, EV5, EV6, List.map_cons, List.map_nil, w_lp1, w_lp0, ca_0, ca_s, Nat.reduceAdd, Nat.reduceSub, Int.reduceToNat, Nat.reduceMul, Nat.reduceEqDiff, Nat.reduceLeDiff, Int.reduceEq, Int.reduceLT, Int.reduceLE, ↓reduceIte, List.length_cons, List.length_nil, List.getElem?_cons_zero, List.getElem?_cons_succ, if_true, if_false, Ck_pos, List.all_cons, List.all_nil, Bool.and_self, Bool.and_true, Bool.true_and, beq_self_eq_true, eq_self, Bool.not_true, Bool.not_false, decide_true, decide_false, and_self, true_and, and_true, List.drop_zero, List.drop_succ_cons, List.take_succ_cons, List.take_zero, List.take_nil, List.drop_nil, List.cons_append, List.nil_append, List.append_nil, Int.toNat_natCast, List.length_map, Nat.le_refl, Nat.zero_add, Nat.sub_zero, Nat.add_zero, take_full, List.replicate_succ, List.replicate_zero, List.set_cons_zero, List.set_cons_succ, Option.some.injEq, FV.bool.injEq, FV.int.injEq, most, deep, wrap64, wrapu64, wrapu8, wrapi8]
    have hq := ihk (i + 1) (by omega)
    rw [take_succ (by simp; omega), map_getD _ (by omega), List.map_append, List.map_cons, List.map_nil, tV_eq] at hq
    exact Ok_inL (by decide) (by simp [lowTm, low, lows, LAWSb]) (by simp [cutH, lowHeap, lowObj, lows, low, lows_app', LAWSb, lo_tm, -List.map_map, -List.map_take]) hq
theorem replaced_spec (n : List UInt8) (u t : Te) (hl : size t ≤ 1000000) : RepS n u t := by
  induction t using Tm'.ind with
  | h t ih =>
  have hsz := sizes_len t.l
  have hse := size_eq t
  refine lim_iso tg32 rfl rfl (by simp [pures, pure_, pu_Ts]) ?_
  by_cases hk : t.k = 2
  · by_cases hn : t.s = n
    · have hn' : (t.s == n) = true := by simp [hn]
      rw [putT_eq, if_pos ⟨hk, hn⟩]
      simp (disch := first | omega | (simp only [List.length_append, List.length_map, List.length_cons, List.length_nil, List.length_replicate, List.length_drop, List.length_take]; omega) | (simp only [hget_c, Nat.reduceEqDiff, ↓reduceIte]; done) | assumption | (simp (disch := omega) only [hg_ne, hg_eq, hgs_ne, *]; done) | (simp only [LAWSb]; done) | with_unfolding_all rfl) only [c32, LAWSb, hk, hn', EV1, EV2, EV3, EV4, EV5, EV6, List.map_cons, List.map_nil, w_lp1, w_lp0, ca_0, ca_s, Nat.reduceAdd, Nat.reduceSub, Int.reduceToNat, Nat.reduceMul, Nat.reduceEqDiff, Nat.reduceLeDiff, Int.reduceEq, Int.reduceLT, Int.reduceLE, ↓reduceIte, List.length_cons, List.length_nil, List.getElem?_cons_zero, List.getElem?_cons_succ, if_true, if_false, Ck_pos, List.all_cons, List.all_nil, Bool.and_self, Bool.and_true, Bool.true_and, beq_self_eq_true, eq_self, Bool.not_true, Bool.not_false, decide_true, decide_false, and_self, true_and, and_true, List.drop_zero, List.drop_succ_cons, List.take_succ_cons, List.take_zero, List.take_nil, List.drop_nil, List.cons_append, List.nil_append, List.append_nil, Int.toNat_natCast, List.length_map, Nat.le_refl, Nat.zero_add, Nat.sub_zero, Nat.add_zero, take_full, List.replicate_succ, List.replicate_zero, List.set_cons_zero, List.set_cons_succ, Option.some.injEq, FV.bool.injEq, FV.int.injEq, most, deep, wrap64, wrapu64, wrapu8, wrapi8]
    · have hn' : (t.s == n) = false := by simp [hn]
      have lp := replaced_loop n u t (fun h => hn h.2) (by omega) (fun x hx => ih x hx (by have := size_mem hx; omega)) t.l.length 0 (by omega)
      rw [List.take_zero] at lp
      rw [hk] at lp
      simp (disch := first | omega | (simp only [List.length_append, List.length_map, List.length_cons, List.length_nil, List.length_replicate, List.length_drop, List.length_take]; omega) | (simp only [hget_c, Nat.reduceEqDiff, ↓reduceIte]; done) | assumption | (simp (disch := omega) only [hg_ne, hg_eq, hgs_ne, *]; done) | (simp only [LAWSb]; done) | with_unfolding_all rfl) only [c32, LAWSb, hk, hn', EV1, EV2, EV3, EV4, EV5, EV6, List.map_cons, List.map_nil, w_lp1, w_lp0, ca_0, ca_s, Nat.reduceAdd, Nat.reduceSub, Int.reduceToNat, Nat.reduceMul, Nat.reduceEqDiff, Nat.reduceLeDiff, Int.reduceEq, Int.reduceLT, Int.reduceLE, ↓reduceIte, List.length_cons, List.length_nil, List.getElem?_cons_zero, List.getElem?_cons_succ, if_true, if_false, Ck_pos, List.all_cons, List.all_nil, Bool.and_self, Bool.and_true, Bool.true_and, beq_self_eq_true, eq_self, Bool.not_true, Bool.not_false, decide_true, decide_false, and_self, true_and, and_true, List.drop_zero, List.drop_succ_cons, List.take_succ_cons, List.take_zero, List.take_nil, List.drop_nil, List.cons_append, List.nil_append, List.append_nil, Int.toNat_natCast, List.length_map, Nat.le_refl, Nat.zero_add, Nat.sub_zero, Nat.add_zero, take_full, List.replicate_succ, List.replicate_zero, List.set_cons_zero, List.set_cons_succ, Option.some.injEq, FV.bool.injEq, FV.int.injEq, most, deep, wrap64, wrapu64, wrapu8, wrapi8]
      exact lp
  · have lp := replaced_loop n u t (fun h => hk h.1) (by omega) (fun x hx => ih x hx (by have := size_mem hx; omega)) t.l.length 0 (by omega)
    rw [List.take_zero] at lp
    simp (disch := first | omega | (simp only [List.length_append, List.length_map, List.length_cons, List.length_nil, List.length_replicate, List.length_drop, List.length_take]; omega) | (simp only [hget_c, Nat.reduceEqDiff, ↓reduceIte]; done) | assumption | (simp (disch := omega) only [hg_ne, hg_eq, hgs_ne, *]; done) | (simp only [LAWSb]; done) | with_unfolding_all rfl) only [c32, LAWSb, hk, EV1, EV2, EV3, EV4, EV5, EV6, List.map_cons, List.map_nil, w_lp1, w_lp0, ca_0, ca_s, Nat.reduceAdd, Nat.reduceSub, Int.reduceToNat, Nat.reduceMul, Nat.reduceEqDiff, Nat.reduceLeDiff, Int.reduceEq, Int.reduceLT, Int.reduceLE, ↓reduceIte, List.length_cons, List.length_nil, List.getElem?_cons_zero, List.getElem?_cons_succ, if_true, if_false, Ck_pos, List.all_cons, List.all_nil, Bool.and_self, Bool.and_true, Bool.true_and, beq_self_eq_true, eq_self, Bool.not_true, Bool.not_false, decide_true, decide_false, and_self, true_and, and_true, List.drop_zero, List.drop_succ_cons, List.take_succ_cons, List.take_zero, List.take_nil, List.drop_nil, List.cons_append, List.nil_append, List.append_nil, Int.toNat_natCast, List.length_map, Nat.le_refl, Nat.zero_add, Nat.sub_zero, Nat.add_zero, take_full, List.replicate_succ, List.replicate_zero, List.set_cons_zero, List.set_cons_succ, Option.some.injEq, FV.bool.injEq, FV.int.injEq, most, deep, wrap64, wrapu64, wrapu8, wrapi8]
    exact lp
abbrev grP (n : List UInt8) (m a : Int) (h : Heap) : Prop := hget h 8 = some (.lp 0 0) ∧ hget h 1 = some (.row 1 [.str n]) ∧ hget h 2 = some (.row 1 [.int .i64 m]) ∧ hget h 4 = some (.row 1 [.int .i64 (IntKind.i64.wrap a)])
theorem grown_spec (t : Te) (n : List UInt8) (m : Nat) (hm : 1 ≤ m) (hm' : m ≤ 1000000) (hl : size t ≤ 1000000) : ∀ h nx, lim T 31 [.agg [.int .u8 (t).k, .int .i64 (t).w, .int .u64 (t).b, .str (t).s, .int .i64 (t).lo, .lst (t).e ((t).l.map tV)], .str n, .int .i64 m] h nx = some (.int .i64 ((size t + occ n (nodesT t) * (m - 1) : Nat) : Int), h, nx) := by
  refine lim_iso tg31 rfl rfl (by simp [pures, pure_, pu_Ts]) ?_
  simp (disch := first | omega | (simp only [List.length_append, List.length_map, List.length_cons, List.length_nil, List.length_replicate, List.length_drop, List.length_take]; omega) | (simp only [hget_c, Nat.reduceEqDiff, ↓reduceIte]; done) | assumption | (simp (disch := omega) only [hg_ne, hg_eq, hgs_ne, *]; done) | (simp only [LAWSb]; done) | with_unfolding_all rfl) only [c31, nodes_spec, LAWSb, EV1, EV2, EV3, EV4, EV5, EV6, List.map_cons, List.map_nil, w_lp1, w_lp0, ca_0, ca_s, Nat.reduceAdd, Nat.reduceSub, Int.reduceToNat, Nat.reduceMul, Nat.reduceEqDiff, Nat.reduceLeDiff, Int.reduceEq, Int.reduceLT, Int.reduceLE, ↓reduceIte, List.length_cons, List.length_nil, List.getElem?_cons_zero, List.getElem?_cons_succ, if_true, if_false, Ck_pos, List.all_cons, List.all_nil, Bool.and_self, Bool.and_true, Bool.true_and, beq_self_eq_true, eq_self, Bool.not_true, Bool.not_false, decide_true, decide_false, and_self, true_and, and_true, List.drop_zero, List.drop_succ_cons, List.take_succ_cons, List.take_zero, List.take_nil, List.drop_nil, List.cons_append, List.nil_append, List.append_nil, Int.toNat_natCast, List.length_map, Nat.le_refl, Nat.zero_add, Nat.sub_zero, Nat.add_zero, take_full, List.replicate_succ, List.replicate_zero, List.set_cons_zero, List.set_cons_succ, Option.some.injEq, FV.bool.injEq, FV.int.injEq, most, deep, wrap64, wrapu64, wrapu8, wrapi8]
  have hocc := occ_le n (nodesT t)
  rw [nodesT_len] at hocc
  refine Ok_call1 (walk_spec 1003100 8 9 [.ptr 1 1 0 0, .ptr 2 1 0 0, .ptr 4 1 0 0] (grG n m) (grP n m) (fun (_ : Empty) _ => True) (fun a h h' hp hk => ⟨(hk _ (by omega)).trans hp.1, (hk _ (by omega)).trans hp.2.1, (hk _ (by omega)).trans hp.2.2.1, (hk _ (by omega)).trans hp.2.2.2⟩) t hl ?_ 0 _ _ (by omega) ⟨rfl, rfl, rfl, rfl⟩) fun r hr => ?_
  · intro x hx a h nx hb hp
    obtain ⟨p1, p2, p3, p4⟩ := hp
    rw [lim_round tg1003100 rfl rfl p1]
    show @Ok _ _ ⟨fun r => ResR _ _ _ _ _ r _⟩
    simp only [r1003100]
    by_cases hk : x.k = 2
    · by_cases hn : x.s = n
      · have hn' : (x.s == n) = true := by simp [hn]
        have hg : grG n m a x = .inl (a + ((m - 1) + 1)) := by simp [grG, hk, hn]
        rw [hg]
        have hw : ∀ a : Int, IntKind.i64.wrap (IntKind.i64.wrap (IntKind.i64.wrap a + ((m : Int) - 1)) + 1) = IntKind.i64.wrap (a + (((m : Int) - 1) + 1)) := fun a => by
          rw [wrap_add, Int.add_assoc, wrap_add]
        simp (disch := first | omega | (simp only [List.length_append, List.length_map, List.length_cons, List.length_nil, List.length_replicate, List.length_drop, List.length_take]; omega) | (simp only [hget_c, Nat.reduceEqDiff, ↓reduceIte]; done) | assumption | (simp (disch := omega) only [hg_ne, hg_eq, hgs_ne, *]; done) | (simp only [LAWSb]; done) | with_unfolding_all rfl) only [unf a31_1.eq_1, unf b31_0.eq_1, p1, p2, p3, p4, hgs_ne, hgs_eq p1, hgx_e, Option.map_some, hk, hn', EV1, EV2, EV3, EV4, EV5, EV6, List.map_cons, List.map_nil, w_lp1, w_lp0, ca_0, ca_s, Nat.reduceAdd, Nat.reduceSub, Int.reduceToNat, Nat.reduceMul, Nat.reduceEqDiff, Nat.reduceLeDiff, Int.reduceEq, Int.reduceLT, Int.reduceLE, ↓reduceIte, List.length_cons, List.length_nil, List.getElem?_cons_zero, List.getElem?_cons_succ, if_true, if_false, Ck_pos, List.all_cons, List.all_nil, Bool.and_self, Bool.and_true, Bool.true_and, beq_self_eq_true, eq_self, Bool.not_true, Bool.not_false, decide_true, decide_false, and_self, true_and, and_true, List.drop_zero, List.drop_succ_cons, List.take_succ_cons, List.take_zero, List.take_nil, List.drop_nil, List.cons_append, List.nil_append, List.append_nil, Int.toNat_natCast, List.length_map, Nat.le_refl, Nat.zero_add, Nat.sub_zero, Nat.add_zero, take_full, List.replicate_succ, List.replicate_zero, List.set_cons_zero, List.set_cons_succ, Option.some.injEq, FV.bool.injEq, FV.int.injEq, most, deep, wrap64, wrapu64, wrapu8, wrapi8]
        exact ⟨rfl, ⟨by (simp (disch := omega) only [hg_ne, hg_eq, hgs_ne, hgx_e, Option.map_some, *]), by (simp (disch := omega) only [hg_ne, hg_eq, hgs_ne, hgx_e, Option.map_some, *]), by (simp (disch := omega) only [hg_ne, hg_eq, hgs_ne, hgx_e, Option.map_some, *]), by simp (disch := omega) only [hg_ne, hg_eq, hgs_ne, hgx_e, Option.map_some, p4, hw]⟩, ⟨by dsimp only; omega, fun i hi hl => by simp (disch := omega) only [hg_ne, hgs_ne]⟩⟩
      · have hn' : (x.s == n) = false := by simp [hn]
        have hg : grG n m a x = .inl (a + (0 + 1)) := by simp [grG, hn]
        rw [hg]
        simp (disch := first | omega | (simp only [List.length_append, List.length_map, List.length_cons, List.length_nil, List.length_replicate, List.length_drop, List.length_take]; omega) | (simp only [hget_c, Nat.reduceEqDiff, ↓reduceIte]; done) | assumption | (simp (disch := omega) only [hg_ne, hg_eq, hgs_ne, *]; done) | (simp only [LAWSb]; done) | with_unfolding_all rfl) only [unf a31_1.eq_1, unf b31_0.eq_1, p1, p2, p3, p4, hgs_ne, hgs_eq p1, hgx_e, Option.map_some, hk, hn', wrap_add, EV1, EV2, EV3, EV4, EV5, EV6, List.map_cons, List.map_nil, w_lp1, w_lp0, ca_0, ca_s, Nat.reduceAdd, Nat.reduceSub, Int.reduceToNat, Nat.reduceMul, Nat.reduceEqDiff, Nat.reduceLeDiff, Int.reduceEq, Int.reduceLT, Int.reduceLE, ↓reduceIte, List.length_cons, List.length_nil, List.getElem?_cons_zero, List.getElem?_cons_succ, if_true, if_false, Ck_pos, List.all_cons, List.all_nil, Bool.and_self, Bool.and_true, Bool.true_and, beq_self_eq_true, eq_self, Bool.not_true, Bool.not_false, decide_true, decide_false, and_self, true_and, and_true, List.drop_zero, List.drop_succ_cons, List.take_succ_cons, List.take_zero, List.take_nil, List.drop_nil, List.cons_append, List.nil_append, List.append_nil, Int.toNat_natCast, List.length_map, Nat.le_refl, Nat.zero_add, Nat.sub_zero, Nat.add_zero, take_full, List.replicate_succ, List.replicate_zero, List.set_cons_zero, List.set_cons_succ, Option.some.injEq, FV.bool.injEq, FV.int.injEq, most, deep, wrap64, wrapu64, wrapu8, wrapi8]
        exact ⟨rfl, ⟨by (simp (disch := omega) only [hg_ne, hg_eq, hgs_ne, hgx_e, Option.map_some, *]), by (simp (disch := omega) only [hg_ne, hg_eq, hgs_ne, hgx_e, Option.map_some, *]), by (simp (disch := omega) only [hg_ne, hg_eq, hgs_ne, hgx_e, Option.map_some, *]), by simp (disch := omega) only [hg_ne, hg_eq, hgs_ne, hgx_e, Option.map_some, p4, Int.zero_add]⟩, ⟨by dsimp only; omega, fun i hi hl => by simp (disch := omega) only [hg_ne, hgs_ne]⟩⟩
    · have hg : grG n m a x = .inl (a + (0 + 1)) := by simp [grG, hk]
      rw [hg]
      simp (disch := first | omega | (simp only [List.length_append, List.length_map, List.length_cons, List.length_nil, List.length_replicate, List.length_drop, List.length_take]; omega) | (simp only [hget_c, Nat.reduceEqDiff, ↓reduceIte]; done) | assumption | (simp (disch := omega) only [hg_ne, hg_eq, hgs_ne, *]; done) | (simp only [LAWSb]; done) | with_unfolding_all rfl) only [unf a31_1.eq_1, unf b31_0.eq_1, p1, p2, p3, p4, hgs_ne, hgs_eq p1, hgx_e, Option.map_some, hk, wrap_add, EV1, EV2, EV3, EV4, EV5, EV6, List.map_cons, List.map_nil, w_lp1, w_lp0, ca_0, ca_s, Nat.reduceAdd, Nat.reduceSub, Int.reduceToNat, Nat.reduceMul, Nat.reduceEqDiff, Nat.reduceLeDiff, Int.reduceEq, Int.reduceLT, Int.reduceLE, ↓reduceIte, List.length_cons, List.length_nil, List.getElem?_cons_zero, List.getElem?_cons_succ, if_true, if_false, Ck_pos, List.all_cons, List.all_nil, Bool.and_self, Bool.and_true, Bool.true_and, beq_self_eq_true, eq_self, Bool.not_true, Bool.not_false, decide_true, decide_false, and_self, true_and, and_true, List.drop_zero, List.drop_succ_cons, List.take_succ_cons, List.take_zero, List.take_nil, List.drop_nil, List.cons_append, List.nil_append, List.append_nil, Int.toNat_natCast, List.length_map, Nat.le_refl, Nat.zero_add, Nat.sub_zero, Nat.add_zero, take_full, List.replicate_succ, List.replicate_zero, List.set_cons_zero, List.set_cons_succ, Option.some.injEq, FV.bool.injEq, FV.int.injEq, most, deep, wrap64, wrapu64, wrapu8, wrapi8]
      exact ⟨rfl, ⟨by (simp (disch := omega) only [hg_ne, hg_eq, hgs_ne, hgx_e, Option.map_some, *]), by (simp (disch := omega) only [hg_ne, hg_eq, hgs_ne, hgx_e, Option.map_some, *]), by (simp (disch := omega) only [hg_ne, hg_eq, hgs_ne, hgx_e, Option.map_some, *]), by simp (disch := omega) only [hg_ne, hg_eq, hgs_ne, hgx_e, Option.map_some, p4, Int.zero_add]⟩, ⟨by dsimp only; omega, fun i hi hl => by simp (disch := omega) only [hg_ne, hgs_ne]⟩⟩
  · rw [grG_run, nodesT_len] at hr
    obtain ⟨v, h', nx'⟩ := r
    obtain ⟨rfl, ⟨p1, p2, p3, p4⟩, hf⟩ := hr
    dsimp only at p1 p2 p3 p4
    refine ⟨rfl, ?_⟩
    have hmul : occ n (nodesT t) * (m - 1) ≤ 1000000 * 1000000 := Nat.mul_le_mul (by omega) (by omega)
    have e : (0 : Int) + ((size t : Int) + (occ n (nodesT t) : Int) * ((m : Int) - 1)) = ((size t + occ n (nodesT t) * (m - 1) : Nat) : Int) := by
      rw [Int.zero_add, Int.natCast_add, Int.natCast_mul, Int.natCast_sub hm]; rfl
    rw [e, wrap64 (by omega) (by omega)] at p4
    simp (disch := first | omega | (simp only [List.length_append, List.length_map, List.length_cons, List.length_nil, List.length_replicate, List.length_drop, List.length_take]; omega) | (simp only [hget_c, Nat.reduceEqDiff, ↓reduceIte]; done) | assumption | (simp (disch := omega) only [hg_ne, hg_eq, hgs_ne, *]; done) | (simp only [LAWSb]; done) | with_unfolding_all rfl) only [unf k31_2.eq_1, c31, p1, p4, hgs_ne, EV1, EV2, EV3, EV4, EV5, EV6, List.map_cons, List.map_nil, w_lp1, w_lp0, ca_0, ca_s, Nat.reduceAdd, Nat.reduceSub, Int.reduceToNat, Nat.reduceMul, Nat.reduceEqDiff, Nat.reduceLeDiff, Int.reduceEq, Int.reduceLT, Int.reduceLE, ↓reduceIte, List.length_cons, List.length_nil, List.getElem?_cons_zero, List.getElem?_cons_succ, if_true, if_false, Ck_pos, List.all_cons, List.all_nil, Bool.and_self, Bool.and_true, Bool.true_and, beq_self_eq_true, eq_self, Bool.not_true, Bool.not_false, decide_true, decide_false, and_self, true_and, and_true, List.drop_zero, List.drop_succ_cons, List.take_succ_cons, List.take_zero, List.take_nil, List.drop_nil, List.cons_append, List.nil_append, List.append_nil, Int.toNat_natCast, List.length_map, Nat.le_refl, Nat.zero_add, Nat.sub_zero, Nat.add_zero, take_full, List.replicate_succ, List.replicate_zero, List.set_cons_zero, List.set_cons_succ, Option.some.injEq, FV.bool.injEq, FV.int.injEq, most, deep, wrap64, wrapu64, wrapu8, wrapi8]
/-! the program's Subst -/
theorem frz_tm {h : Heap} {a b : Nat} {v : FV} {t : Te} (hv : RpT h a b v t) (hs : size t ≤ 1000000) : ∃ t', er t' = er t ∧ frzs h deep [v] = some [.agg [.int .u8 (t').k, .int .i64 (t').w, .int .u64 (t').b, .str (t').s, .int .i64 (t').lo, .lst (t').e ((t').l.map tV)]] := by
  obtain ⟨t', e, hf⟩ := hv.frz (n := deep - 1) (by unfold deep; omega)
  refine ⟨t', e, ?_⟩
  rw [tV_eq] at hf
  exact frzs_c' (n := deep - 1) hf rfl
theorem nodeS_er (x : Te) : nodeS (er x) ↔ nodeS x := by
  have hl : (x.l.map er).length = x.l.length := List.length_map _
  have hg : ∀ i, ((x.l.map er).getD i default).w = (x.l.getD i default).w := fun i => by
    rcases Nat.lt_or_ge i x.l.length with h | h
    · rw [map_getD er h, er_w]
    · simp [List.getD, h]
  have hw : ∀ w, allW (x.l.map er) w ↔ allW x.l w := fun w => by unfold allW; rw [hl]; simp only [hg]
  unfold nodeS widthsS subW
  rw [er_w, er_k, er_b, er_s, er_lo, er_l, hl]
  rw [hg 0, hg 1, hg 2, hw]
theorem nodesOk_er (t : Te) : nodesOk (er t) ↔ nodesOk t := by
  unfold nodesOk
  rw [nodes_er]
  constructor
  · intro h x hx; exact (nodeS_er x).1 (h _ (List.mem_map_of_mem hx))
  · intro h x hx
    obtain ⟨y, hy, rfl⟩ := List.mem_map.1 hx
    exact (nodeS_er y).2 (h y hy)
theorem checkS_er (t : Te) : checkS (er t) = checkS t := by
  unfold checkS
  rw [size_er, depth_er, varsE_er]
  by_cases h : nodesOk t
  · rw [if_pos ((nodesOk_er t).2 h), if_pos h]
  · rw [if_neg (fun hh => h ((nodesOk_er t).1 hh)), if_neg h]
theorem checkS_of_er {a b : Te} (h : er a = er b) : checkS a = checkS b := by rw [← checkS_er a, h, checkS_er]
theorem KOk_er {t : Te} (h : KOk t) : KOk (er t) := fun x hx => by
  rw [nodes_er] at hx
  obtain ⟨y, hy, rfl⟩ := List.mem_map.1 hx
  rw [er_k]; exact h y hy
theorem KOk_of_er {a b : Te} (e : er a = er b) (h : KOk a) : KOk b := fun x hx => by
  have h1 : er x ∈ nodesT (er b) := by rw [nodes_er]; exact List.mem_map_of_mem hx
  have := KOk_er h (er x) (by rw [e]; exact h1)
  rwa [er_k] at this
theorem KOk_iff (t : Te) : KOk t ↔ 0 ≤ t.k ∧ ∀ x ∈ t.l, KOk x := all_nodes
theorem KOk_put (n : List UInt8) {u : Te} (hu : KOk u) (t : Te) (ht : KOk t) : KOk (putT n u t) := by
  induction t using Tm'.ind with | h t ih =>
  rw [putT_eq]
  split
  · exact hu
  · rw [KOk_iff]
    refine ⟨((KOk_iff t).1 ht).1, fun x hx => ?_⟩
    obtain ⟨y, hy, rfl⟩ := List.mem_map.1 hx
    exact ih y hy (((KOk_iff t).1 ht).2 y hy)
theorem TwR.frz {h : Heap} {nx : Nat} {t : Te} {r : FV × Heap × Nat} (hr : TwR h nx t r) (hs : size t ≤ 1000000) : ∃ t', er t' = er t ∧ frzs r.2.1 deep [r.1] = some [.agg [.int .u8 (t').k, .int .i64 (t').w, .int .u64 (t').b, .str (t').s, .int .i64 (t').lo, .lst (t').e ((t').l.map tV)]] := frz_tm hr.1 hs
open Classical in
/-- What Subst gives. -/
noncomputable def substE (t u : Te) (n : List UInt8) : Int :=
  if checkS t ≠ 0 then checkS t else if checkS u ≠ 0 then checkS u else if ∃ w, (n, w) ∈ varList t ∧ w ≠ u.w then 14 else if 400 < size t + occ n (nodesT t) * (size u - 1) then 4 else checkS (putT n u t)
def zT : Te := .mk 0 0 0 [] 0 true []
noncomputable def substT (t u : Te) (n : List UInt8) : Te := if substE t u n = 0 then putT n u t else zT

/-! The program's Subst. -/
def SuR (h : Heap) (nx : Nat) (t u : Te) (n : List UInt8) (r : FV × Heap × Nat) : Prop := ∃ v, r.1 = .tup [v, .int .i64 (substE t u n)] ∧ (substE t u n = 0 → RpT r.2.1 nx r.2.2 v (putT n u t)) ∧ (substE t u n ≠ 0 → v = .agg [.int .u8 0, .int .i64 0, .int .u64 0, .str [], .int .i64 0, .lst true []]) ∧ Ext h r.2.1 nx r.2.2
theorem check_zero {t : Te} (h : checkS t = 0) : size t ≤ 400 ∧ depth t ≤ 60 ∧ nodesOk t ∧ ∃ en, varsE t = .inl en := by
  by_cases hm : 400 < size t ∨ 60 < depth t
  · rw [← check_many hm] at h; cases h
  · by_cases hn : nodesOk t
    · rw [check_in hm hn] at h
      cases hv : varsE t with
      | inl en => exact ⟨by omega, by omega, hn, en, rfl⟩
      | inr u => rw [hv] at h; cases h
    · rw [← check_bad hm hn] at h; cases h
theorem leaf_ok {t : Te} (h : nodesOk t) : ∀ x ∈ nodesT t, x.k = 2 → x.l.length = 0 := fun x hx hk => ((node_k2 hk).1 (h x hx)).2.1
theorem subst_spec (t u : Te) (n : List UInt8) (ht : size t ≤ 1000000) (hu : size u ≤ 1000000) (kt : KOk t) (ku : KOk u) (h : Heap) (nx : Nat) : ∃ r, lim T 8 [.agg [.int .u8 (t).k, .int .i64 (t).w, .int .u64 (t).b, .str (t).s, .int .i64 (t).lo, .lst (t).e ((t).l.map tV)], .str n, .agg [.int .u8 (u).k, .int .i64 (u).w, .int .u64 (u).b, .str (u).s, .int .i64 (u).lo, .lst (u).e ((u).l.map tV)]] h nx = some r ∧ SuR h nx t u n r := by
  rw [lim_shr tg8 rfl rfl]
  suffices hh : @Ok Out (runs T [.code c8.body] (params 0 [.agg [.int .u8 (t).k, .int .i64 (t).w, .int .u64 (t).b, .str (t).s, .int .i64 (t).lo, .lst (t).e ((t).l.map tV)], .str n, .agg [.int .u8 (u).k, .int .i64 (u).w, .int .u64 (u).b, .str (u).s, .int .i64 (u).lo, .lst (u).e ((u).l.map tV)]]) h nx) ⟨fun x => @Ok FV (finV c8.res x) ⟨fun v => SuR h nx t u n (v, x.2.2.1, x.2.2.2)⟩⟩ by
    obtain ⟨x, h1, v, h2, h3⟩ := hh
    exact ⟨(v, x.2.2.1, x.2.2.2), by rw [h1, B_some, h2, B_some], h3⟩
  have c1 := check_pure t ht kt
  have c2 := check_pure u hu ku
  by_cases e1 : checkS t = 0
  · by_cases e2 : checkS u = 0
    · rw [e1] at c1
      rw [e2] at c2
      simp (disch := first | omega | (simp only [List.length_append, List.length_map, List.length_cons, List.length_nil, List.length_replicate, List.length_drop, List.length_take]; omega) | (simp only [hget_c, Nat.reduceEqDiff, ↓reduceIte]; done) | assumption | (simp (disch := omega) only [hg_ne, hg_eq, hgs_ne, *]; done) | (simp only [LAWSb]; done) | with_unfolding_all rfl) only [c8, LAWSb, c1, c2, Nat.add_assoc, EV1, EV2, EV3, EV4, EV5, EV6, List.map_cons, List.map_nil, w_lp1, w_lp0, ca_0, ca_s, Nat.reduceAdd, Nat.reduceSub, Int.reduceToNat, Nat.reduceMul, Nat.reduceEqDiff, Nat.reduceLeDiff, Int.reduceEq, Int.reduceLT, Int.reduceLE, ↓reduceIte, List.length_cons, List.length_nil, List.getElem?_cons_zero, List.getElem?_cons_succ, if_true, if_false, Ck_pos, List.all_cons, List.all_nil, Bool.and_self, Bool.and_true, Bool.true_and, beq_self_eq_true, eq_self, Bool.not_true, Bool.not_false, decide_true, decide_false, and_self, true_and, and_true, List.drop_zero, List.drop_succ_cons, List.take_succ_cons, List.take_zero, List.take_nil, List.drop_nil, List.cons_append, List.nil_append, List.append_nil, Int.toNat_natCast, List.length_map, Nat.le_refl, Nat.zero_add, Nat.sub_zero, Nat.add_zero, take_full, List.replicate_succ, List.replicate_zero, List.set_cons_zero, List.set_cons_succ, Option.some.injEq, FV.bool.injEq, FV.int.injEq, most, deep, wrap64, wrapu64, wrapu8, wrapi8]
      refine Ok_call (variables_spec t ht _ _) fun r hr => ?_
      obtain ⟨v, h', nx'⟩ := r
      cases hv : varsE t with
      | inr _ =>
        exfalso
        obtain ⟨_, _, _, en, he⟩ := check_zero e1
        rw [hv] at he; cases he
      | inl en =>
        rw [hv] at hr
        obtain ⟨rfl, q1, q2, q3⟩ := hr
        dsimp only at q1 q2 q3
        refine ⟨rfl, ?_⟩
        simp (disch := first | omega | (simp only [List.length_append, List.length_map, List.length_cons, List.length_nil, List.length_replicate, List.length_drop, List.length_take]; omega) | (simp only [hget_c, Nat.reduceEqDiff, ↓reduceIte]; done) | assumption | (simp (disch := omega) only [hg_ne, hg_eq, hgs_ne, *]; done) | (simp only [LAWSb]; done) | with_unfolding_all rfl) only [c8, LAWSb, c1, c2, q1, q2, Nat.add_assoc, EV1, EV2, EV3, EV4, EV5, EV6, List.map_cons, List.map_nil, w_lp1, w_lp0, ca_0, ca_s, Nat.reduceAdd, Nat.reduceSub, Int.reduceToNat, Nat.reduceMul, Nat.reduceEqDiff, Nat.reduceLeDiff, Int.reduceEq, Int.reduceLT, Int.reduceLE, ↓reduceIte, List.length_cons, List.length_nil, List.getElem?_cons_zero, List.getElem?_cons_succ, if_true, if_false, Ck_pos, List.all_cons, List.all_nil, Bool.and_self, Bool.and_true, Bool.true_and, beq_self_eq_true, eq_self, Bool.not_true, Bool.not_false, decide_true, decide_false, and_self, true_and, and_true, List.drop_zero, List.drop_succ_cons, List.take_succ_cons, List.take_zero, List.take_nil, List.drop_nil, List.cons_append, List.nil_append, List.append_nil, Int.toNat_natCast, List.length_map, Nat.le_refl, Nat.zero_add, Nat.sub_zero, Nat.add_zero, take_full, List.replicate_succ, List.replicate_zero, List.set_cons_zero, List.set_cons_succ, Option.some.injEq, FV.bool.injEq, FV.int.injEq, most, deep, wrap64, wrapu64, wrapu8, wrapi8]
        obtain ⟨hcs, hkn⟩ := varsE_in hv
        have hfe := find_E n en
        obtain ⟨sz, _, hno, _⟩ := check_zero e1
        obtain ⟨szu, _, _, _⟩ := check_zero e2
        have hsu := size_spec u hu
        have hup := size_pos u
        have hgr := grown_spec t n (size u) hup hu ht
        have hrp := replaced_spec n u t ht
        have hsp := size_putT n u t (leaf_ok hno)
        have pre : ∀ {v e h' nx'}, substE t u n = e → e ≠ 0 → v = .tup [.agg [.int .u8 0, .int .i64 0, .int .u64 0, .str [], .int .i64 0, .lst true []], .int .i64 e] → Ext h h' nx nx' → SuR h nx t u n (v, h', nx') := by
          rintro v e h' nx' hE hne rfl hx
          exact ⟨_, by rw [hE], fun hz => absurd (hE ▸ hz) hne, fun _ => rfl, hx⟩
        have g0 := (q3 nx (by omega)).trans (by simp (disch := omega) only [hg_ne, hg_eq] : _ = some (Obj.row 6 [.agg [.int .u8 (t).k, .int .i64 (t).w, .int .u64 (t).b, .str (t).s, .int .i64 (t).lo, .lst (t).e ((t).l.map tV)]]))
        have g1 := (q3 (nx + 1) (by omega)).trans (by simp (disch := omega) only [hg_ne, hg_eq] : _ = some (Obj.row 6 [.agg [.int .u8 (u).k, .int .i64 (u).w, .int .u64 (u).b, .str (u).s, .int .i64 (u).lo, .lst (u).e ((u).l.map tV)]]))
        have g2 := (q3 (nx + 2) (by omega)).trans (by simp (disch := omega) only [hg_ne, hg_eq] : _ = some (Obj.row 6 [.agg [.int .u8 0, .int .i64 0, .int .u64 0, .str [], .int .i64 0, .lst true []]]))
        have g3 : ∀ i, i < nx → hget h' i = hget h i := fun i hi => (q3 i (by omega)).trans (by simp (disch := omega) only [hg_ne])
        have hsz : (400 : Int) < ((size t + occ n (nodesT t) * (size u - 1) : Nat) : Int) ↔ 400 < size t + occ n (nodesT t) * (size u - 1) := by omega
        cases hlk : lkE en n with
        | none =>
          rw [hlk] at hfe
          simp only [Option.map_none] at hfe
          have hnv : ¬ ∃ w, (n, w) ∈ varList t ∧ w ≠ u.w := by
            rintro ⟨w, hw, _⟩
            have := (hkn n w).2 hw
            rw [hlk] at this; cases this
          by_cases hbig : 400 < size t + occ n (nodesT t) * (size u - 1)
          · have hb := hsz.2 hbig
            simp (disch := first | omega | (simp only [List.length_append, List.length_map, List.length_cons, List.length_nil, List.length_replicate, List.length_drop, List.length_take]; omega) | (simp only [hget_c, Nat.reduceEqDiff, ↓reduceIte]; done) | assumption | (simp (disch := omega) only [hg_ne, hg_eq, hgs_ne, *]; done) | (simp only [LAWSb]; done) | with_unfolding_all rfl) only [c8, LAWSb, q1, q2, hfe, hsu, hgr, g0, g1, g2, hb, hgs_ne, hgx_e, Option.map_some, Nat.add_assoc, EV1, EV2, EV3, EV4, EV5, EV6, List.map_cons, List.map_nil, w_lp1, w_lp0, ca_0, ca_s, Nat.reduceAdd, Nat.reduceSub, Int.reduceToNat, Nat.reduceMul, Nat.reduceEqDiff, Nat.reduceLeDiff, Int.reduceEq, Int.reduceLT, Int.reduceLE, ↓reduceIte, List.length_cons, List.length_nil, List.getElem?_cons_zero, List.getElem?_cons_succ, if_true, if_false, Ck_pos, List.all_cons, List.all_nil, Bool.and_self, Bool.and_true, Bool.true_and, beq_self_eq_true, eq_self, Bool.not_true, Bool.not_false, decide_true, decide_false, and_self, true_and, and_true, List.drop_zero, List.drop_succ_cons, List.take_succ_cons, List.take_zero, List.take_nil, List.drop_nil, List.cons_append, List.nil_append, List.append_nil, Int.toNat_natCast, List.length_map, Nat.le_refl, Nat.zero_add, Nat.sub_zero, Nat.add_zero, take_full, List.replicate_succ, List.replicate_zero, List.set_cons_zero, List.set_cons_succ, Option.some.injEq, FV.bool.injEq, FV.int.injEq, most, deep, wrap64, wrapu64, wrapu8, wrapi8]
            have hE : substE t u n = 4 := by unfold substE; rw [if_neg (by simp [e1]), if_neg (by simp [e2]), if_neg hnv, if_pos hbig]
            exact pre hE (by decide) rfl ⟨by omega, fun i hi => by rw [hgs_ne (by omega)]; exact g3 i hi⟩
          · have hb : ¬ (400 : Int) < ((size t + occ n (nodesT t) * (size u - 1) : Nat) : Int) := fun hh => hbig (hsz.1 hh)
            simp (disch := first | omega | (simp only [List.length_append, List.length_map, List.length_cons, List.length_nil, List.length_replicate, List.length_drop, List.length_take]; omega) | (simp only [hget_c, Nat.reduceEqDiff, ↓reduceIte]; done) | assumption | (simp (disch := omega) only [hg_ne, hg_eq, hgs_ne, *]; done) | (simp only [LAWSb]; done) | with_unfolding_all rfl) only [c8, LAWSb, q1, q2, hfe, hsu, hgr, g0, g1, g2, hb, hrp, Nat.add_assoc, EV1, EV2, EV3, EV4, EV5, EV6, List.map_cons, List.map_nil, w_lp1, w_lp0, ca_0, ca_s, Nat.reduceAdd, Nat.reduceSub, Int.reduceToNat, Nat.reduceMul, Nat.reduceEqDiff, Nat.reduceLeDiff, Int.reduceEq, Int.reduceLT, Int.reduceLE, ↓reduceIte, List.length_cons, List.length_nil, List.getElem?_cons_zero, List.getElem?_cons_succ, if_true, if_false, Ck_pos, List.all_cons, List.all_nil, Bool.and_self, Bool.and_true, Bool.true_and, beq_self_eq_true, eq_self, Bool.not_true, Bool.not_false, decide_true, decide_false, and_self, true_and, and_true, List.drop_zero, List.drop_succ_cons, List.take_succ_cons, List.take_zero, List.take_nil, List.drop_nil, List.cons_append, List.nil_append, List.append_nil, Int.toNat_natCast, List.length_map, Nat.le_refl, Nat.zero_add, Nat.sub_zero, Nat.add_zero, take_full, List.replicate_succ, List.replicate_zero, List.set_cons_zero, List.set_cons_succ, Option.some.injEq, FV.bool.injEq, FV.int.injEq, most, deep, wrap64, wrapu64, wrapu8, wrapi8]
            have szp : size (putT n u t) ≤ 1000000 := by rw [hsp]; omega
            refine Ok_call (twin_spec (putT n u t) szp _ _) fun r hr => ?_
            obtain ⟨v, h2, nx2⟩ := r
            obtain ⟨hv, x1, x2⟩ := hr
            dsimp only at hv x1 x2
            obtain ⟨c, rfl, hc⟩ := RpT_iff.1 hv
            have cok : c.one = true ∧ c.cells.length = 1 := by
              rcases hc with ⟨e, rfl, _⟩ | ⟨id, xs, rfl, _⟩ <;> exact ⟨rfl, rfl⟩
            have r2 := (x2 (nx + 2) (by omega)).trans g2
            refine ⟨rfl, ?_⟩
            simp (disch := first | omega | (simp only [List.length_append, List.length_map, List.length_cons, List.length_nil, List.length_replicate, List.length_drop, List.length_take]; omega) | (simp only [hget_c, Nat.reduceEqDiff, ↓reduceIte]; done) | assumption | (simp (disch := omega) only [hg_ne, hg_eq, hgs_ne, *]; done) | (simp only [LAWSb]; done) | with_unfolding_all rfl) only [c8, LAWSb, cok.1, check_lim, Nat.add_assoc, EV1, EV2, EV3, EV4, EV5, EV6, List.map_cons, List.map_nil, w_lp1, w_lp0, ca_0, ca_s, Nat.reduceAdd, Nat.reduceSub, Int.reduceToNat, Nat.reduceMul, Nat.reduceEqDiff, Nat.reduceLeDiff, Int.reduceEq, Int.reduceLT, Int.reduceLE, ↓reduceIte, List.length_cons, List.length_nil, List.getElem?_cons_zero, List.getElem?_cons_succ, if_true, if_false, Ck_pos, List.all_cons, List.all_nil, Bool.and_self, Bool.and_true, Bool.true_and, beq_self_eq_true, eq_self, Bool.not_true, Bool.not_false, decide_true, decide_false, and_self, true_and, and_true, List.drop_zero, List.drop_succ_cons, List.take_succ_cons, List.take_zero, List.take_nil, List.drop_nil, List.cons_append, List.nil_append, List.append_nil, Int.toNat_natCast, List.length_map, Nat.le_refl, Nat.zero_add, Nat.sub_zero, Nat.add_zero, take_full, List.replicate_succ, List.replicate_zero, List.set_cons_zero, List.set_cons_succ, Option.some.injEq, FV.bool.injEq, FV.int.injEq, most, deep, wrap64, wrapu64, wrapu8, wrapi8]
            simp only [B_B]
            have hszl : sizes (putT n u t).l ≤ 1000000 := by have := size_eq (putT n u t); omega
            refine Ok_ex (RpS.frz (a := nx' + 28) (b := nx2) (l := (putT n u t).l) ?_ (by omega)) fun v hq => ?_
            · exact hc.mono (by omega) (by omega) (fun i hi1 hi2 => by rw [hg_ne (by omega)])
            obtain ⟨e, l', hl', rfl⟩ := hq
            have her : er (.mk (putT n u t).k (putT n u t).w (putT n u t).b (putT n u t).s (putT n u t).lo e l') = er (putT n u t) := by
              rw [er_eq (putT n u t), er_eq, ← hl']; rfl
            have c3 : ∀ h nx, isfR T c14 [.agg [.int .u8 (putT n u t).k, .int .i64 (putT n u t).w, .int .u64 (putT n u t).b, .str (putT n u t).s, .int .i64 (putT n u t).lo, .lst e (l'.map tV)]] h nx = some (.int .i64 (checkS (.mk (putT n u t).k (putT n u t).w (putT n u t).b (putT n u t).s (putT n u t).lo e l')), h, nx) := check_spec (.mk (putT n u t).k (putT n u t).w (putT n u t).b (putT n u t).s (putT n u t).lo e l') (by rw [← size_er, her, size_er]; exact szp) (KOk_of_er her.symm (KOk_put n ku t kt))
            rw [checkS_of_er her] at c3
            have hE : substE t u n = checkS (putT n u t) := by unfold substE; rw [if_neg (by simp [e1]), if_neg (by simp [e2]), if_neg hnv, if_neg hbig]
            by_cases e3 : checkS (putT n u t) = 0
            · rw [e3] at c3
              simp (disch := first | omega | (simp only [List.length_append, List.length_map, List.length_cons, List.length_nil, List.length_replicate, List.length_drop, List.length_take]; omega) | (simp only [hget_c, Nat.reduceEqDiff, ↓reduceIte]; done) | assumption | (simp (disch := omega) only [hg_ne, hg_eq, hgs_ne, *]; done) | (simp only [LAWSb]; done) | with_unfolding_all rfl) only [c8, LAWSb, c3, r2, hgs_ne, hgx_e, Option.map_some, Nat.add_assoc, EV1, EV2, EV3, EV4, EV5, EV6, List.map_cons, List.map_nil, w_lp1, w_lp0, ca_0, ca_s, Nat.reduceAdd, Nat.reduceSub, Int.reduceToNat, Nat.reduceMul, Nat.reduceEqDiff, Nat.reduceLeDiff, Int.reduceEq, Int.reduceLT, Int.reduceLE, ↓reduceIte, List.length_cons, List.length_nil, List.getElem?_cons_zero, List.getElem?_cons_succ, if_true, if_false, Ck_pos, List.all_cons, List.all_nil, Bool.and_self, Bool.and_true, Bool.true_and, beq_self_eq_true, eq_self, Bool.not_true, Bool.not_false, decide_true, decide_false, and_self, true_and, and_true, List.drop_zero, List.drop_succ_cons, List.take_succ_cons, List.take_zero, List.take_nil, List.drop_nil, List.cons_append, List.nil_append, List.append_nil, Int.toNat_natCast, List.length_map, Nat.le_refl, Nat.zero_add, Nat.sub_zero, Nat.add_zero, take_full, List.replicate_succ, List.replicate_zero, List.set_cons_zero, List.set_cons_succ, Option.some.injEq, FV.bool.injEq, FV.int.injEq, most, deep, wrap64, wrapu64, wrapu8, wrapi8]
              refine ⟨_, by rw [hE, e3], fun _ => ?_, fun hz => absurd (hE.trans e3) hz, by dsimp only; omega, fun i hi => ?_⟩
              · exact RpT_iff.2 ⟨c, rfl, hc.mono (by omega) (by dsimp only; omega) (fun i hi1 hi2 => by dsimp only; rw [hg_ne (by omega), hgs_ne (by omega)])⟩
              · dsimp only
                rw [hg_ne (by omega), hgs_ne (by omega), x2 _ (by omega)]
                exact g3 i hi
            · simp (disch := first | omega | (simp only [List.length_append, List.length_map, List.length_cons, List.length_nil, List.length_replicate, List.length_drop, List.length_take]; omega) | (simp only [hget_c, Nat.reduceEqDiff, ↓reduceIte]; done) | assumption | (simp (disch := omega) only [hg_ne, hg_eq, hgs_ne, *]; done) | (simp only [LAWSb]; done) | with_unfolding_all rfl) only [c8, LAWSb, c3, e3, r2, hgs_ne, hgx_e, Option.map_some, Nat.add_assoc, EV1, EV2, EV3, EV4, EV5, EV6, List.map_cons, List.map_nil, w_lp1, w_lp0, ca_0, ca_s, Nat.reduceAdd, Nat.reduceSub, Int.reduceToNat, Nat.reduceMul, Nat.reduceEqDiff, Nat.reduceLeDiff, Int.reduceEq, Int.reduceLT, Int.reduceLE, ↓reduceIte, List.length_cons, List.length_nil, List.getElem?_cons_zero, List.getElem?_cons_succ, if_true, if_false, Ck_pos, List.all_cons, List.all_nil, Bool.and_self, Bool.and_true, Bool.true_and, beq_self_eq_true, eq_self, Bool.not_true, Bool.not_false, decide_true, decide_false, and_self, true_and, and_true, List.drop_zero, List.drop_succ_cons, List.take_succ_cons, List.take_zero, List.take_nil, List.drop_nil, List.cons_append, List.nil_append, List.append_nil, Int.toNat_natCast, List.length_map, Nat.le_refl, Nat.zero_add, Nat.sub_zero, Nat.add_zero, take_full, List.replicate_succ, List.replicate_zero, List.set_cons_zero, List.set_cons_succ, Option.some.injEq, FV.bool.injEq, FV.int.injEq, most, deep, wrap64, wrapu64, wrapu8, wrapi8]
              exact pre hE e3 rfl ⟨by omega, fun i hi => by rw [hg_ne (by omega), hgs_ne (by omega), x2 _ (by omega)]; exact g3 i hi⟩
        | some w =>
          rw [hlk] at hfe
          simp only [Option.map_some] at hfe
          by_cases hw : w = u.w
          · have hnv : ¬ ∃ w, (n, w) ∈ varList t ∧ w ≠ u.w := by
              rintro ⟨w', hw', hne⟩
              have := (hkn n w').2 hw'
              rw [hlk] at this; cases this; exact hne hw
            by_cases hbig : 400 < size t + occ n (nodesT t) * (size u - 1)
            · have hb := hsz.2 hbig
              simp (disch := first | omega | (simp only [List.length_append, List.length_map, List.length_cons, List.length_nil, List.length_replicate, List.length_drop, List.length_take]; omega) | (simp only [hget_c, Nat.reduceEqDiff, ↓reduceIte]; done) | assumption | (simp (disch := omega) only [hg_ne, hg_eq, hgs_ne, *]; done) | (simp only [LAWSb]; done) | with_unfolding_all rfl) only [c8, LAWSb, q1, q2, hfe, hw, hsu, hgr, g0, g1, g2, hb, hgs_ne, hgx_e, Option.map_some, Nat.add_assoc, EV1, EV2, EV3, EV4, EV5, EV6, List.map_cons, List.map_nil, w_lp1, w_lp0, ca_0, ca_s, Nat.reduceAdd, Nat.reduceSub, Int.reduceToNat, Nat.reduceMul, Nat.reduceEqDiff, Nat.reduceLeDiff, Int.reduceEq, Int.reduceLT, Int.reduceLE, ↓reduceIte, List.length_cons, List.length_nil, List.getElem?_cons_zero, List.getElem?_cons_succ, if_true, if_false, Ck_pos, List.all_cons, List.all_nil, Bool.and_self, Bool.and_true, Bool.true_and, beq_self_eq_true, eq_self, Bool.not_true, Bool.not_false, decide_true, decide_false, and_self, true_and, and_true, List.drop_zero, List.drop_succ_cons, List.take_succ_cons, List.take_zero, List.take_nil, List.drop_nil, List.cons_append, List.nil_append, List.append_nil, Int.toNat_natCast, List.length_map, Nat.le_refl, Nat.zero_add, Nat.sub_zero, Nat.add_zero, take_full, List.replicate_succ, List.replicate_zero, List.set_cons_zero, List.set_cons_succ, Option.some.injEq, FV.bool.injEq, FV.int.injEq, most, deep, wrap64, wrapu64, wrapu8, wrapi8]
              have hE : substE t u n = 4 := by unfold substE; rw [if_neg (by simp [e1]), if_neg (by simp [e2]), if_neg hnv, if_pos hbig]
              exact pre hE (by decide) rfl ⟨by omega, fun i hi => by rw [hgs_ne (by omega)]; exact g3 i hi⟩
            · have hb : ¬ (400 : Int) < ((size t + occ n (nodesT t) * (size u - 1) : Nat) : Int) := fun hh => hbig (hsz.1 hh)
              simp (disch := first | omega | (simp only [List.length_append, List.length_map, List.length_cons, List.length_nil, List.length_replicate, List.length_drop, List.length_take]; omega) | (simp only [hget_c, Nat.reduceEqDiff, ↓reduceIte]; done) | assumption | (simp (disch := omega) only [hg_ne, hg_eq, hgs_ne, *]; done) | (simp only [LAWSb]; done) | with_unfolding_all rfl) only [c8, LAWSb, q1, q2, hfe, hw, hsu, hgr, g0, g1, g2, hb, hrp, Nat.add_assoc, EV1, EV2, EV3, EV4, EV5, EV6, List.map_cons, List.map_nil, w_lp1, w_lp0, ca_0, ca_s, Nat.reduceAdd, Nat.reduceSub, Int.reduceToNat, Nat.reduceMul, Nat.reduceEqDiff, Nat.reduceLeDiff, Int.reduceEq, Int.reduceLT, Int.reduceLE, ↓reduceIte, List.length_cons, List.length_nil, List.getElem?_cons_zero, List.getElem?_cons_succ, if_true, if_false, Ck_pos, List.all_cons, List.all_nil, Bool.and_self, Bool.and_true, Bool.true_and, beq_self_eq_true, eq_self, Bool.not_true, Bool.not_false, decide_true, decide_false, and_self, true_and, and_true, List.drop_zero, List.drop_succ_cons, List.take_succ_cons, List.take_zero, List.take_nil, List.drop_nil, List.cons_append, List.nil_append, List.append_nil, Int.toNat_natCast, List.length_map, Nat.le_refl, Nat.zero_add, Nat.sub_zero, Nat.add_zero, take_full, List.replicate_succ, List.replicate_zero, List.set_cons_zero, List.set_cons_succ, Option.some.injEq, FV.bool.injEq, FV.int.injEq, most, deep, wrap64, wrapu64, wrapu8, wrapi8]
              have szp : size (putT n u t) ≤ 1000000 := by rw [hsp]; omega
              refine Ok_call (twin_spec (putT n u t) szp _ _) fun r hr => ?_
              obtain ⟨v, h2, nx2⟩ := r
              obtain ⟨hv, x1, x2⟩ := hr
              dsimp only at hv x1 x2
              obtain ⟨c, rfl, hc⟩ := RpT_iff.1 hv
              have cok : c.one = true ∧ c.cells.length = 1 := by
                rcases hc with ⟨e, rfl, _⟩ | ⟨id, xs, rfl, _⟩ <;> exact ⟨rfl, rfl⟩
              have r2 := (x2 (nx + 2) (by omega)).trans g2
              refine ⟨rfl, ?_⟩
              simp (disch := first | omega | (simp only [List.length_append, List.length_map, List.length_cons, List.length_nil, List.length_replicate, List.length_drop, List.length_take]; omega) | (simp only [hget_c, Nat.reduceEqDiff, ↓reduceIte]; done) | assumption | (simp (disch := omega) only [hg_ne, hg_eq, hgs_ne, *]; done) | (simp only [LAWSb]; done) | with_unfolding_all rfl) only [c8, LAWSb, cok.1, check_lim, Nat.add_assoc, EV1, EV2, EV3, EV4, EV5, EV6, List.map_cons, List.map_nil, w_lp1, w_lp0, ca_0, ca_s, Nat.reduceAdd, Nat.reduceSub, Int.reduceToNat, Nat.reduceMul, Nat.reduceEqDiff, Nat.reduceLeDiff, Int.reduceEq, Int.reduceLT, Int.reduceLE, ↓reduceIte, List.length_cons, List.length_nil, List.getElem?_cons_zero, List.getElem?_cons_succ, if_true, if_false, Ck_pos, List.all_cons, List.all_nil, Bool.and_self, Bool.and_true, Bool.true_and, beq_self_eq_true, eq_self, Bool.not_true, Bool.not_false, decide_true, decide_false, and_self, true_and, and_true, List.drop_zero, List.drop_succ_cons, List.take_succ_cons, List.take_zero, List.take_nil, List.drop_nil, List.cons_append, List.nil_append, List.append_nil, Int.toNat_natCast, List.length_map, Nat.le_refl, Nat.zero_add, Nat.sub_zero, Nat.add_zero, take_full, List.replicate_succ, List.replicate_zero, List.set_cons_zero, List.set_cons_succ, Option.some.injEq, FV.bool.injEq, FV.int.injEq, most, deep, wrap64, wrapu64, wrapu8, wrapi8]
              simp only [B_B]
              have hszl : sizes (putT n u t).l ≤ 1000000 := by have := size_eq (putT n u t); omega
              refine Ok_ex (RpS.frz (a := nx' + 28) (b := nx2) (l := (putT n u t).l) ?_ (by omega)) fun v hq => ?_
              · exact hc.mono (by omega) (by omega) (fun i hi1 hi2 => by rw [hg_ne (by omega)])
              obtain ⟨e, l', hl', rfl⟩ := hq
              have her : er (.mk (putT n u t).k (putT n u t).w (putT n u t).b (putT n u t).s (putT n u t).lo e l') = er (putT n u t) := by
                rw [er_eq (putT n u t), er_eq, ← hl']; rfl
              have c3 : ∀ h nx, isfR T c14 [.agg [.int .u8 (putT n u t).k, .int .i64 (putT n u t).w, .int .u64 (putT n u t).b, .str (putT n u t).s, .int .i64 (putT n u t).lo, .lst e (l'.map tV)]] h nx = some (.int .i64 (checkS (.mk (putT n u t).k (putT n u t).w (putT n u t).b (putT n u t).s (putT n u t).lo e l')), h, nx) := check_spec (.mk (putT n u t).k (putT n u t).w (putT n u t).b (putT n u t).s (putT n u t).lo e l') (by rw [← size_er, her, size_er]; exact szp) (KOk_of_er her.symm (KOk_put n ku t kt))
              rw [checkS_of_er her] at c3
              have hE : substE t u n = checkS (putT n u t) := by unfold substE; rw [if_neg (by simp [e1]), if_neg (by simp [e2]), if_neg hnv, if_neg hbig]
              by_cases e3 : checkS (putT n u t) = 0
              · rw [e3] at c3
                simp (disch := first | omega | (simp only [List.length_append, List.length_map, List.length_cons, List.length_nil, List.length_replicate, List.length_drop, List.length_take]; omega) | (simp only [hget_c, Nat.reduceEqDiff, ↓reduceIte]; done) | assumption | (simp (disch := omega) only [hg_ne, hg_eq, hgs_ne, *]; done) | (simp only [LAWSb]; done) | with_unfolding_all rfl) only [c8, LAWSb, c3, r2, hgs_ne, hgx_e, Option.map_some, Nat.add_assoc, EV1, EV2, EV3, EV4, EV5, EV6, List.map_cons, List.map_nil, w_lp1, w_lp0, ca_0, ca_s, Nat.reduceAdd, Nat.reduceSub, Int.reduceToNat, Nat.reduceMul, Nat.reduceEqDiff, Nat.reduceLeDiff, Int.reduceEq, Int.reduceLT, Int.reduceLE, ↓reduceIte, List.length_cons, List.length_nil, List.getElem?_cons_zero, List.getElem?_cons_succ, if_true, if_false, Ck_pos, List.all_cons, List.all_nil, Bool.and_self, Bool.and_true, Bool.true_and, beq_self_eq_true, eq_self, Bool.not_true, Bool.not_false, decide_true, decide_false, and_self, true_and, and_true, List.drop_zero, List.drop_succ_cons, List.take_succ_cons, List.take_zero, List.take_nil, List.drop_nil, List.cons_append, List.nil_append, List.append_nil, Int.toNat_natCast, List.length_map, Nat.le_refl, Nat.zero_add, Nat.sub_zero, Nat.add_zero, take_full, List.replicate_succ, List.replicate_zero, List.set_cons_zero, List.set_cons_succ, Option.some.injEq, FV.bool.injEq, FV.int.injEq, most, deep, wrap64, wrapu64, wrapu8, wrapi8]
                refine ⟨_, by rw [hE, e3], fun _ => ?_, fun hz => absurd (hE.trans e3) hz, by dsimp only; omega, fun i hi => ?_⟩
                · exact RpT_iff.2 ⟨c, rfl, hc.mono (by omega) (by dsimp only; omega) (fun i hi1 hi2 => by dsimp only; rw [hg_ne (by omega), hgs_ne (by omega)])⟩
                · dsimp only
                  rw [hg_ne (by omega), hgs_ne (by omega), x2 _ (by omega)]
                  exact g3 i hi
              · simp (disch := first | omega | (simp only [List.length_append, List.length_map, List.length_cons, List.length_nil, List.length_replicate, List.length_drop, List.length_take]; omega) | (simp only [hget_c, Nat.reduceEqDiff, ↓reduceIte]; done) | assumption | (simp (disch := omega) only [hg_ne, hg_eq, hgs_ne, *]; done) | (simp only [LAWSb]; done) | with_unfolding_all rfl) only [c8, LAWSb, c3, e3, r2, hgs_ne, hgx_e, Option.map_some, Nat.add_assoc, EV1, EV2, EV3, EV4, EV5, EV6, List.map_cons, List.map_nil, w_lp1, w_lp0, ca_0, ca_s, Nat.reduceAdd, Nat.reduceSub, Int.reduceToNat, Nat.reduceMul, Nat.reduceEqDiff, Nat.reduceLeDiff, Int.reduceEq, Int.reduceLT, Int.reduceLE, ↓reduceIte, List.length_cons, List.length_nil, List.getElem?_cons_zero, List.getElem?_cons_succ, if_true, if_false, Ck_pos, List.all_cons, List.all_nil, Bool.and_self, Bool.and_true, Bool.true_and, beq_self_eq_true, eq_self, Bool.not_true, Bool.not_false, decide_true, decide_false, and_self, true_and, and_true, List.drop_zero, List.drop_succ_cons, List.take_succ_cons, List.take_zero, List.take_nil, List.drop_nil, List.cons_append, List.nil_append, List.append_nil, Int.toNat_natCast, List.length_map, Nat.le_refl, Nat.zero_add, Nat.sub_zero, Nat.add_zero, take_full, List.replicate_succ, List.replicate_zero, List.set_cons_zero, List.set_cons_succ, Option.some.injEq, FV.bool.injEq, FV.int.injEq, most, deep, wrap64, wrapu64, wrapu8, wrapi8]
                exact pre hE e3 rfl ⟨by omega, fun i hi => by rw [hg_ne (by omega), hgs_ne (by omega), x2 _ (by omega)]; exact g3 i hi⟩
          · simp (disch := first | omega | (simp only [List.length_append, List.length_map, List.length_cons, List.length_nil, List.length_replicate, List.length_drop, List.length_take]; omega) | (simp only [hget_c, Nat.reduceEqDiff, ↓reduceIte]; done) | assumption | (simp (disch := omega) only [hg_ne, hg_eq, hgs_ne, *]; done) | (simp only [LAWSb]; done) | with_unfolding_all rfl) only [c8, LAWSb, c1, c2, q1, q2, hfe, hw, hsu, hgr, g0, g1, g2, hgs_ne, hgx_e, Option.map_some, Nat.add_assoc, EV1, EV2, EV3, EV4, EV5, EV6, List.map_cons, List.map_nil, w_lp1, w_lp0, ca_0, ca_s, Nat.reduceAdd, Nat.reduceSub, Int.reduceToNat, Nat.reduceMul, Nat.reduceEqDiff, Nat.reduceLeDiff, Int.reduceEq, Int.reduceLT, Int.reduceLE, ↓reduceIte, List.length_cons, List.length_nil, List.getElem?_cons_zero, List.getElem?_cons_succ, if_true, if_false, Ck_pos, List.all_cons, List.all_nil, Bool.and_self, Bool.and_true, Bool.true_and, beq_self_eq_true, eq_self, Bool.not_true, Bool.not_false, decide_true, decide_false, and_self, true_and, and_true, List.drop_zero, List.drop_succ_cons, List.take_succ_cons, List.take_zero, List.take_nil, List.drop_nil, List.cons_append, List.nil_append, List.append_nil, Int.toNat_natCast, List.length_map, Nat.le_refl, Nat.zero_add, Nat.sub_zero, Nat.add_zero, take_full, List.replicate_succ, List.replicate_zero, List.set_cons_zero, List.set_cons_succ, Option.some.injEq, FV.bool.injEq, FV.int.injEq, most, deep, wrap64, wrapu64, wrapu8, wrapi8]
            have hE : substE t u n = 14 := by unfold substE; rw [if_neg (by simp [e1]), if_neg (by simp [e2]), if_pos ⟨w, (hkn n w).1 hlk, hw⟩]
            exact pre hE (by decide) rfl ⟨by omega, fun i hi => by rw [hgs_ne (by omega)]; exact g3 i hi⟩
    · rw [e1] at c1
      have hE : substE t u n = checkS u := by unfold substE; rw [if_neg (by simp [e1]), if_pos e2]
      have hne : ¬ (checkS u = 0) := e2
      simp (disch := first | omega | (simp only [List.length_append, List.length_map, List.length_cons, List.length_nil, List.length_replicate, List.length_drop, List.length_take]; omega) | (simp only [hget_c, Nat.reduceEqDiff, ↓reduceIte]; done) | assumption | (simp (disch := omega) only [hg_ne, hg_eq, hgs_ne, *]; done) | (simp only [LAWSb]; done) | with_unfolding_all rfl) only [c8, LAWSb, c1, c2, hne, hgs_ne, hgx_e, Option.map_some, Nat.add_assoc, EV1, EV2, EV3, EV4, EV5, EV6, List.map_cons, List.map_nil, w_lp1, w_lp0, ca_0, ca_s, Nat.reduceAdd, Nat.reduceSub, Int.reduceToNat, Nat.reduceMul, Nat.reduceEqDiff, Nat.reduceLeDiff, Int.reduceEq, Int.reduceLT, Int.reduceLE, ↓reduceIte, List.length_cons, List.length_nil, List.getElem?_cons_zero, List.getElem?_cons_succ, if_true, if_false, Ck_pos, List.all_cons, List.all_nil, Bool.and_self, Bool.and_true, Bool.true_and, beq_self_eq_true, eq_self, Bool.not_true, Bool.not_false, decide_true, decide_false, and_self, true_and, and_true, List.drop_zero, List.drop_succ_cons, List.take_succ_cons, List.take_zero, List.take_nil, List.drop_nil, List.cons_append, List.nil_append, List.append_nil, Int.toNat_natCast, List.length_map, Nat.le_refl, Nat.zero_add, Nat.sub_zero, Nat.add_zero, take_full, List.replicate_succ, List.replicate_zero, List.set_cons_zero, List.set_cons_succ, Option.some.injEq, FV.bool.injEq, FV.int.injEq, most, deep, wrap64, wrapu64, wrapu8, wrapi8]
      refine ⟨_, by rw [hE], fun hz => absurd (hE ▸ hz) e2, fun _ => rfl, by dsimp only; omega, fun i hi => ?_⟩
      dsimp only
      simp (disch := omega) only [hg_ne, hgs_ne]
  · have hE : substE t u n = checkS t := by unfold substE; rw [if_pos e1]
    simp (disch := first | omega | (simp only [List.length_append, List.length_map, List.length_cons, List.length_nil, List.length_replicate, List.length_drop, List.length_take]; omega) | (simp only [hget_c, Nat.reduceEqDiff, ↓reduceIte]; done) | assumption | (simp (disch := omega) only [hg_ne, hg_eq, hgs_ne, *]; done) | (simp only [LAWSb]; done) | with_unfolding_all rfl) only [c8, LAWSb, c1, e1, hgs_ne, hgx_e, Option.map_some, Nat.add_assoc, EV1, EV2, EV3, EV4, EV5, EV6, List.map_cons, List.map_nil, w_lp1, w_lp0, ca_0, ca_s, Nat.reduceAdd, Nat.reduceSub, Int.reduceToNat, Nat.reduceMul, Nat.reduceEqDiff, Nat.reduceLeDiff, Int.reduceEq, Int.reduceLT, Int.reduceLE, ↓reduceIte, List.length_cons, List.length_nil, List.getElem?_cons_zero, List.getElem?_cons_succ, if_true, if_false, Ck_pos, List.all_cons, List.all_nil, Bool.and_self, Bool.and_true, Bool.true_and, beq_self_eq_true, eq_self, Bool.not_true, Bool.not_false, decide_true, decide_false, and_self, true_and, and_true, List.drop_zero, List.drop_succ_cons, List.take_succ_cons, List.take_zero, List.take_nil, List.drop_nil, List.cons_append, List.nil_append, List.append_nil, Int.toNat_natCast, List.length_map, Nat.le_refl, Nat.zero_add, Nat.sub_zero, Nat.add_zero, take_full, List.replicate_succ, List.replicate_zero, List.set_cons_zero, List.set_cons_succ, Option.some.injEq, FV.bool.injEq, FV.int.injEq, most, deep, wrap64, wrapu64, wrapu8, wrapi8]
    refine ⟨_, by rw [hE], fun hz => absurd (hE ▸ hz) e1, fun _ => rfl, by dsimp only; omega, fun i hi => ?_⟩
    dsimp only
    simp (disch := omega) only [hg_ne, hgs_ne]

/-! The reference's Subst. -/
def IsPut (n : List UInt8) (u t : Te) (v : FV) : Prop := ∃ p : Te, v = .agg [.int .u8 (p).k, .int .i64 (p).w, .int .u64 (p).b, .str (p).s, .int .i64 (p).lo, .lst (p).e ((p).l.map tV)] ∧ er p = er (putT n u t)
/-- What a list of objects holds when some of its elements are put in. -/
def Half (n : List UInt8) (u : Te) (l : List Te) (i : Nat) (xs : List FV) : Prop := xs.length = l.length ∧ (∃ ps : List Te, ps.map er = (l.take i).map (fun x => er (putT n u x)) ∧ xs.take i = ps.map tV) ∧ ∀ j, i ≤ j → j < l.length → ∃ a0 a1 a2 a3 a4 a5, xs[j]? = some (.agg [a0, a1, a2, a3, a4, a5])
theorem RpL.get {h : Heap} {a b : Nat} : ∀ {xs : List FV} {l : List Te}, RpL h a b xs l → ∀ j, j < l.length → ∃ a0 a1 a2 a3 a4 a5, xs[j]? = some (.agg [a0, a1, a2, a3, a4, a5]) := by
  intro xs
  induction xs with
  | nil => intro l hl j hj; cases l with | nil => simp at hj | cons => exact hl.elim
  | cons x xs ih =>
    intro l hl j hj
    cases l with
    | nil => exact hl.elim
    | cons t l =>
      cases j with
      | zero => obtain ⟨c, rfl, _⟩ := RpT_iff.1 hl.1; exact ⟨_, _, _, _, _, _, rfl⟩
      | succ j => exact ih hl.2 j (by simpa using hj)
theorem Half.zero {h : Heap} {a b : Nat} {xs : List FV} {l : List Te} {n : List UInt8} {u : Te} (hl : RpL h a b xs l) : Half n u l 0 xs := ⟨hl.length, ⟨[], by simp, by simp⟩, fun j _ hj => RpL.get hl j hj⟩
theorem Half.step {n : List UInt8} {u : Te} {l : List Te} {i : Nat} {xs : List FV} (hh : Half n u l i xs) (hi : i < l.length) {p : Te} (hp : er p = er (putT n u (l.getD i default))) : Half n u l (i + 1) (xs.set i (tV p)) := by
  obtain ⟨h1, ⟨ps, h2, h3⟩, h4⟩ := hh
  refine ⟨by rw [List.length_set]; exact h1, ⟨ps ++ [p], ?_, ?_⟩, fun j hj hjl => ?_⟩
  · rw [take_succ hi]; simp [h2, hp]
  · rw [List.map_append, List.map_cons, List.map_nil, ← h3, List.take_add_one, List.take_set_of_le (Nat.le_refl _)]
    simp [h1, hi]
  · rw [List.getElem?_set_ne (by omega)]; exact h4 j (by omega) hjl
theorem rPut_loop (n : List UInt8) (u t : Te) (hm : ¬ (t.k = 2 ∧ t.s = n)) (hl : t.l.length ≤ 1000000) (ih : ∀ x ∈ t.l, ∃ v, IsPut n u x v ∧ ∀ h nx, lim T 34 [.agg [.int .u8 (x).k, .int .i64 (x).w, .int .u64 (x).b, .str (x).s, .int .i64 (x).lo, .lst (x).e ((x).l.map tV)], .str n, .agg [.int .u8 (u).k, .int .i64 (u).w, .int .u64 (u).b, .str (u).s, .int .i64 (u).lo, .lst (u).e ((u).l.map tV)]] h nx = some (v, h, nx)) (id : Nat) (hid : 15 ≤ id) : ∀ (k i : Nat) (xs : List FV) (h : Heap) (nx : Nat), i + k = t.l.length → id < nx → hget h 0 = some (.row 6 [.agg [.int .u8 (t).k, .int .i64 (t).w, .int .u64 (t).b, .str (t).s, .int .i64 (t).lo, .lst (t).e ((t).l.map tV)]]) → hget h 1 = some (.row 6 [.agg [.int .u8 (u).k, .int .i64 (u).w, .int .u64 (u).b, .str (u).s, .int .i64 (u).lo, .lst (u).e ((u).l.map tV)]]) → (∃ a0 a1 a2 a3 a4 a5, hget h 2 = some (.row 6 [.agg [a0, a1, a2, a3, a4, a5]])) → hget h 14 = some (.row 6 [.agg [.int .u8 t.k, .int .i64 t.w, .int .u64 t.b, .str t.s, .int .i64 t.lo, .sref 6 id t.l.length 0 t.l.length]]) → hget h id = some (.row 6 xs) → Half n u t.l i xs →
    @Ok Out (runs T [.code b34_0, .inL none b34_0, .inB 0, .code k34_1] [(1, .str n), (3, .ptr 0 1 0 0), (5, .ptr 1 1 0 0), (6, .ptr 2 1 0 0), (7, .ptr 14 1 0 0), (8, .int .i64 i)] h nx) ⟨fun x => @Ok FV (resV c34.res x) ⟨IsPut n u t⟩⟩ := by
  intro k
  induction k with
  | zero =>
    intro i xs h nx hi hnx q0 q1 q2 q3 g hh
    obtain ⟨a0, a1, a2, a3, a4, a5, q2⟩ := q2
    have : ¬ (i : Int) < t.l.length := by omega
    obtain ⟨h1, ⟨ps, h2, h3⟩, h4⟩ := hh
    rw [List.take_of_length_le (by omega)] at h2 h3
    subst h3
    have hpl : ps.length = t.l.length := by simpa using h1
    simp (disch := first | omega | (simp only [List.length_append, List.length_map, List.length_cons, List.length_nil, List.length_replicate, List.length_drop, List.length_take]; omega) | (simp only [hget_c, Nat.reduceEqDiff, ↓reduceIte]; done) | assumption | (simp (disch := omega) only [hg_ne, hg_eq, hgs_ne, *]; done) | (simp only [LAWSb]; done) | with_unfolding_all rfl) only [unf b34_0.eq_1, unf k34_1.eq_1, c34, this, LAWSb, q0, q1, q2, q3, g, hgs_ne, hgx_e, Option.map_some, hpl, EV1, EV2, EV3, EV4, EV5, EV6, List.map_cons, List.map_nil, w_lp1, w_lp0, ca_0, ca_s, Nat.reduceAdd, Nat.reduceSub, Int.reduceToNat, Nat.reduceMul, Nat.reduceEqDiff, Nat.reduceLeDiff, Int.reduceEq, Int.reduceLT, Int.reduceLE, ↓reduceIte, List.length_cons, List.length_nil, List.getElem?_cons_zero, List.getElem?_cons_succ, if_true, if_false, Ck_pos, List.all_cons, List.all_nil, Bool.and_self, Bool.and_true, Bool.true_and, beq_self_eq_true, eq_self, Bool.not_true, Bool.not_false, decide_true, decide_false, and_self, true_and, and_true, List.drop_zero, List.drop_succ_cons, List.take_succ_cons, List.take_zero, List.take_nil, List.drop_nil, List.cons_append, List.nil_append, List.append_nil, Int.toNat_natCast, List.length_map, Nat.le_refl, Nat.zero_add, Nat.sub_zero, Nat.add_zero, take_full, List.replicate_succ, List.replicate_zero, List.set_cons_zero, List.set_cons_succ, Option.some.injEq, FV.bool.injEq, FV.int.injEq, most, deep, wrap64, wrapu64, wrapu8, wrapi8]
    refine ⟨.mk t.k t.w t.b t.s t.lo false ps, rfl, ?_⟩
    rw [putT_eq, if_neg hm, er_eq, er_eq]
    simp only [Tm'.k, Tm'.w, Tm'.b, Tm'.s, Tm'.lo, Tm'.l, List.map_map]
    rw [h2]; rfl
  | succ k ihk =>
    intro i xs h nx hi hnx q0 q1 q2 q3 g hh
    have : (i : Int) < t.l.length := by omega
    obtain ⟨v, ⟨p, rfl, hp⟩, hx⟩ := ih _ (getD_mem (d := default) (show i < t.l.length by omega))
    obtain ⟨b0, b1, b2, b3, b4, b5, hxi⟩ := hh.2.2 i (Nat.le_refl _) (by omega)
    have hxl := hh.1
    simp (disch := first | omega | (simp only [List.length_append, List.length_map, List.length_cons, List.length_nil, List.length_replicate, List.length_drop, List.length_take]; omega) | (simp only [hget_c, Nat.reduceEqDiff, ↓reduceIte]; done) | assumption | (simp (disch := omega) only [hg_ne, hg_eq, hgs_ne, *]; done) | (simp only [LAWSb]; done) | with_unfolding_all rfl) only [unf b34_0.eq_1, c34, this, LAWSb, q0, q1, q3, g, hx, hxl, hxi, EV1, EV2, EV3, EV4, EV5, EV6, List.map_cons, List.map_nil, w_lp1, w_lp0, ca_0, ca_s, Nat.reduceAdd, Nat.reduceSub, Int.reduceToNat, Nat.reduceMul, Nat.reduceEqDiff, Nat.reduceLeDiff, Int.reduceEq, Int.reduceLT, Int.reduceLE, ↓reduceIte, List.length_cons, List.length_nil, List.getElem?_cons_zero, List.getElem?_cons_succ, if_true, if_false, Ck_pos, List.all_cons, List.all_nil, Bool.and_self, Bool.and_true, Bool.true_and, beq_self_eq_true, eq_self, Bool.not_true, Bool.not_false, decide_true, decide_false, and_self, true_and, and_true, List.drop_zero, List.drop_succ_cons, List.take_succ_cons, List.take_zero, List.take_nil, List.drop_nil, List.cons_append, List.nil_append, List.append_nil, Int.toNat_natCast, List.length_map, Nat.le_refl, Nat.zero_add, Nat.sub_zero, Nat.add_zero, take_full, List.replicate_succ, List.replicate_zero, List.set_cons_zero, List.set_cons_succ, Option.some.injEq, FV.bool.injEq, FV.int.injEq, most, deep, wrap64, wrapu64, wrapu8, wrapi8]
    obtain ⟨a0, a1, a2, a3, a4, a5, q2⟩ := q2
    refine Ok_inL0 (ihk (i + 1) _ _ _ (by omega) (by omega) (by rw [hgs_ne (by omega)]; exact q0) (by rw [hgs_ne (by omega)]; exact q1) ⟨a0, a1, a2, a3, a4, a5, by rw [hgs_ne (by omega)]; exact q2⟩ (by rw [hgs_ne (by omega)]; exact q3) (hgs_eq g) ?_)
    rw [← tV_eq]
    exact hh.step (by omega) hp
theorem rPut_spec (n : List UInt8) (u t : Te) (hl : size t ≤ 1000000) (hu : size u ≤ 1000000) : ∃ v, IsPut n u t v ∧ ∀ h nx, lim T 34 [.agg [.int .u8 (t).k, .int .i64 (t).w, .int .u64 (t).b, .str (t).s, .int .i64 (t).lo, .lst (t).e ((t).l.map tV)], .str n, .agg [.int .u8 (u).k, .int .i64 (u).w, .int .u64 (u).b, .str (u).s, .int .i64 (u).lo, .lst (u).e ((u).l.map tV)]] h nx = some (v, h, nx) := by
  induction t using Tm'.ind with
  | h t ih =>
  have hsz := sizes_len t.l
  have hse := size_eq t
  have hsu := size_eq u
  refine lim_isoP tg34 rfl (args := [.agg [.int .u8 (t).k, .int .i64 (t).w, .int .u64 (t).b, .str (t).s, .int .i64 (t).lo, .lst (t).e ((t).l.map tV)], .str n, .agg [.int .u8 (u).k, .int .i64 (u).w, .int .u64 (u).b, .str (u).s, .int .i64 (u).lo, .lst (u).e ((u).l.map tV)]]) rfl (by simp [pures, pure_, pu_Ts]) ?_
  have hz : decide ((0 : Int) < ((0 : Nat) : Int)) = false := rfl
  have main : ¬ (t.k = 2 ∧ t.s = n) → _ := fun hm => rPut_loop n u t hm (by omega) (fun x hx => ih x hx (by have := size_mem hx; omega))
  by_cases hm : t.k = 2 ∧ t.s = n
  · have hn' : (t.s == n) = true := by simp [hm.2]
    have hk := hm.1
    simp (disch := first | omega | (simp only [List.length_append, List.length_map, List.length_cons, List.length_nil, List.length_replicate, List.length_drop, List.length_take]; omega) | (simp only [hget_c, Nat.reduceEqDiff, ↓reduceIte]; done) | assumption | (simp (disch := omega) only [hg_ne, hg_eq, hgs_ne, *]; done) | (simp only [LAWSb]; done) | with_unfolding_all rfl) only [c34, LAWSb, hk, hn', EV1, EV2, EV3, EV4, EV5, EV6, List.map_cons, List.map_nil, w_lp1, w_lp0, ca_0, ca_s, Nat.reduceAdd, Nat.reduceSub, Int.reduceToNat, Nat.reduceMul, Nat.reduceEqDiff, Nat.reduceLeDiff, Int.reduceEq, Int.reduceLT, Int.reduceLE, ↓reduceIte, List.length_cons, List.length_nil, List.getElem?_cons_zero, List.getElem?_cons_succ, if_true, if_false, Ck_pos, List.all_cons, List.all_nil, Bool.and_self, Bool.and_true, Bool.true_and, beq_self_eq_true, eq_self, Bool.not_true, Bool.not_false, decide_true, decide_false, and_self, true_and, and_true, List.drop_zero, List.drop_succ_cons, List.take_succ_cons, List.take_zero, List.take_nil, List.drop_nil, List.cons_append, List.nil_append, List.append_nil, Int.toNat_natCast, List.length_map, Nat.le_refl, Nat.zero_add, Nat.sub_zero, Nat.add_zero, take_full, List.replicate_succ, List.replicate_zero, List.set_cons_zero, List.set_cons_succ, Option.some.injEq, FV.bool.injEq, FV.int.injEq, most, deep, wrap64, wrapu64, wrapu8, wrapi8]
    refine Ok_call (rTwin_spec u hu _ _) fun r hr => ?_
    obtain ⟨v, h2, nx2⟩ := r
    obtain ⟨hv, x1, x2⟩ := hr
    dsimp only at hv x1 x2
    obtain ⟨c, rfl, hc⟩ := RpT_iff.1 hv
    have cok : c.one = true ∧ c.cells.length = 1 := by
      rcases hc with ⟨e, rfl, _⟩ | ⟨id, xs, rfl, _⟩ <;> exact ⟨rfl, rfl⟩
    have r2 := (x2 2 (by omega)).trans (by simp (disch := omega) only [hg_ne, hg_eq] : _ = some (Obj.row 6 [.agg [.int .u8 0, .int .i64 0, .int .u64 0, .str [], .int .i64 0, .lst true []]]))
    refine ⟨rfl, ?_⟩
    simp (disch := first | omega | (simp only [List.length_append, List.length_map, List.length_cons, List.length_nil, List.length_replicate, List.length_drop, List.length_take]; omega) | (simp only [hget_c, Nat.reduceEqDiff, ↓reduceIte]; done) | assumption | (simp (disch := omega) only [hg_ne, hg_eq, hgs_ne, *]; done) | (simp only [LAWSb]; done) | with_unfolding_all rfl) only [c34, LAWSb, cok.1, r2, hgs_ne, hgx_e, Option.map_some, EV1, EV2, EV3, EV4, EV5, EV6, List.map_cons, List.map_nil, w_lp1, w_lp0, ca_0, ca_s, Nat.reduceAdd, Nat.reduceSub, Int.reduceToNat, Nat.reduceMul, Nat.reduceEqDiff, Nat.reduceLeDiff, Int.reduceEq, Int.reduceLT, Int.reduceLE, ↓reduceIte, List.length_cons, List.length_nil, List.getElem?_cons_zero, List.getElem?_cons_succ, if_true, if_false, Ck_pos, List.all_cons, List.all_nil, Bool.and_self, Bool.and_true, Bool.true_and, beq_self_eq_true, eq_self, Bool.not_true, Bool.not_false, decide_true, decide_false, and_self, true_and, and_true, List.drop_zero, List.drop_succ_cons, List.take_succ_cons, List.take_zero, List.take_nil, List.drop_nil, List.cons_append, List.nil_append, List.append_nil, Int.toNat_natCast, List.length_map, Nat.le_refl, Nat.zero_add, Nat.sub_zero, Nat.add_zero, take_full, List.replicate_succ, List.replicate_zero, List.set_cons_zero, List.set_cons_succ, Option.some.injEq, FV.bool.injEq, FV.int.injEq, most, deep, wrap64, wrapu64, wrapu8, wrapi8]
    simp only [B_B]
    refine Ok_ex (RpS.frz (a := 3) (b := nx2) (l := u.l) ?_ (by omega)) fun v hq => ?_
    · exact hc.mono (by omega) (by omega) (fun i hi1 hi2 => by rw [hgs_ne (by omega)])
    obtain ⟨e, l', hl', rfl⟩ := hq
    simp (disch := first | omega | (simp only [List.length_append, List.length_map, List.length_cons, List.length_nil, List.length_replicate, List.length_drop, List.length_take]; omega) | (simp only [hget_c, Nat.reduceEqDiff, ↓reduceIte]; done) | assumption | (simp (disch := omega) only [hg_ne, hg_eq, hgs_ne, *]; done) | (simp only [LAWSb]; done) | with_unfolding_all rfl) only [c34, LAWSb, EV1, EV2, EV3, EV4, EV5, EV6, List.map_cons, List.map_nil, w_lp1, w_lp0, ca_0, ca_s, Nat.reduceAdd, Nat.reduceSub, Int.reduceToNat, Nat.reduceMul, Nat.reduceEqDiff, Nat.reduceLeDiff, Int.reduceEq, Int.reduceLT, Int.reduceLE, ↓reduceIte, List.length_cons, List.length_nil, List.getElem?_cons_zero, List.getElem?_cons_succ, if_true, if_false, Ck_pos, List.all_cons, List.all_nil, Bool.and_self, Bool.and_true, Bool.true_and, beq_self_eq_true, eq_self, Bool.not_true, Bool.not_false, decide_true, decide_false, and_self, true_and, and_true, List.drop_zero, List.drop_succ_cons, List.take_succ_cons, List.take_zero, List.take_nil, List.drop_nil, List.cons_append, List.nil_append, List.append_nil, Int.toNat_natCast, List.length_map, Nat.le_refl, Nat.zero_add, Nat.sub_zero, Nat.add_zero, take_full, List.replicate_succ, List.replicate_zero, List.set_cons_zero, List.set_cons_succ, Option.some.injEq, FV.bool.injEq, FV.int.injEq, most, deep, wrap64, wrapu64, wrapu8, wrapi8]
    refine ⟨.mk u.k u.w u.b u.s u.lo e l', rfl, ?_⟩
    rw [putT_eq, if_pos hm, er_eq u, er_eq, ← hl']; rfl
  · have main := main hm
    have hcond : t.k = 2 → (t.s == n) = false := fun hk => by simpa using fun e => hm ⟨hk, e⟩
    by_cases hk : t.k = 2
    · have hn' := hcond hk
      simp (disch := first | omega | (simp only [List.length_append, List.length_map, List.length_cons, List.length_nil, List.length_replicate, List.length_drop, List.length_take]; omega) | (simp only [hget_c, Nat.reduceEqDiff, ↓reduceIte]; done) | assumption | (simp (disch := omega) only [hg_ne, hg_eq, hgs_ne, *]; done) | (simp only [LAWSb]; done) | with_unfolding_all rfl) only [c34, LAWSb, hk, hn', EV1, EV2, EV3, EV4, EV5, EV6, List.map_cons, List.map_nil, w_lp1, w_lp0, ca_0, ca_s, Nat.reduceAdd, Nat.reduceSub, Int.reduceToNat, Nat.reduceMul, Nat.reduceEqDiff, Nat.reduceLeDiff, Int.reduceEq, Int.reduceLT, Int.reduceLE, ↓reduceIte, List.length_cons, List.length_nil, List.getElem?_cons_zero, List.getElem?_cons_succ, if_true, if_false, Ck_pos, List.all_cons, List.all_nil, Bool.and_self, Bool.and_true, Bool.true_and, beq_self_eq_true, eq_self, Bool.not_true, Bool.not_false, decide_true, decide_false, and_self, true_and, and_true, List.drop_zero, List.drop_succ_cons, List.take_succ_cons, List.take_zero, List.take_nil, List.drop_nil, List.cons_append, List.nil_append, List.append_nil, Int.toNat_natCast, List.length_map, Nat.le_refl, Nat.zero_add, Nat.sub_zero, Nat.add_zero, take_full, List.replicate_succ, List.replicate_zero, List.set_cons_zero, List.set_cons_succ, Option.some.injEq, FV.bool.injEq, FV.int.injEq, most, deep, wrap64, wrapu64, wrapu8, wrapi8]
      have htw : ∀ h nx, ∃ r, lim T 7 [.agg [.int .u8 2, .int .i64 t.w, .int .u64 t.b, .str t.s, .int .i64 t.lo, .lst t.e (t.l.map tV)]] h nx = some r ∧ TwR h nx t r := by
        have := rTwin_spec t hl
        rwa [hk] at this
      rw [hk] at main
      refine Ok_call (htw _ _) fun r hr => ?_
      obtain ⟨v, h2, nx2⟩ := r
      obtain ⟨hv, x1, x2⟩ := hr
      dsimp only at hv x1 x2
      obtain ⟨c, rfl, hc⟩ := RpT_iff.1 hv
      rw [hk]
      have cok : c.one = true ∧ c.cells.length = 1 := by
        rcases hc with ⟨e, rfl, _⟩ | ⟨id, xs, rfl, _⟩ <;> exact ⟨rfl, rfl⟩
      have r0 := (x2 0 (by omega)).trans (by simp (disch := omega) only [hg_ne, hg_eq] : _ = some (Obj.row 6 [.agg [.int .u8 2, .int .i64 t.w, .int .u64 t.b, .str t.s, .int .i64 t.lo, .lst t.e (t.l.map tV)]]))
      have r1 := (x2 1 (by omega)).trans (by simp (disch := omega) only [hg_ne, hg_eq] : _ = some (Obj.row 6 [.agg [.int .u8 (u).k, .int .i64 (u).w, .int .u64 (u).b, .str (u).s, .int .i64 (u).lo, .lst (u).e ((u).l.map tV)]]))
      have r2 := (x2 2 (by omega)).trans (by simp (disch := omega) only [hg_ne, hg_eq] : _ = some (Obj.row 6 [.agg [.int .u8 0, .int .i64 0, .int .u64 0, .str [], .int .i64 0, .lst true []]]))
      refine ⟨rfl, ?_⟩
      rcases hc with ⟨e, rfl, hl0⟩ | ⟨id, xs, rfl, i1, i2, g, hr⟩
      · simp (disch := first | omega | (simp only [List.length_append, List.length_map, List.length_cons, List.length_nil, List.length_replicate, List.length_drop, List.length_take]; omega) | (simp only [hget_c, Nat.reduceEqDiff, ↓reduceIte]; done) | assumption | (simp (disch := omega) only [hg_ne, hg_eq, hgs_ne, *]; done) | (simp only [LAWSb]; done) | with_unfolding_all rfl) only [c34, LAWSb, unf b34_0.eq_1, unf k34_1.eq_1, r0, r1, r2, hl0, hz, hgs_ne, hgx_e, Option.map_some, EV1, EV2, EV3, EV4, EV5, EV6, List.map_cons, List.map_nil, w_lp1, w_lp0, ca_0, ca_s, Nat.reduceAdd, Nat.reduceSub, Int.reduceToNat, Nat.reduceMul, Nat.reduceEqDiff, Nat.reduceLeDiff, Int.reduceEq, Int.reduceLT, Int.reduceLE, ↓reduceIte, List.length_cons, List.length_nil, List.getElem?_cons_zero, List.getElem?_cons_succ, if_true, if_false, Ck_pos, List.all_cons, List.all_nil, Bool.and_self, Bool.and_true, Bool.true_and, beq_self_eq_true, eq_self, Bool.not_true, Bool.not_false, decide_true, decide_false, and_self, true_and, and_true, List.drop_zero, List.drop_succ_cons, List.take_succ_cons, List.take_zero, List.take_nil, List.drop_nil, List.cons_append, List.nil_append, List.append_nil, Int.toNat_natCast, List.length_map, Nat.le_refl, Nat.zero_add, Nat.sub_zero, Nat.add_zero, take_full, List.replicate_succ, List.replicate_zero, List.set_cons_zero, List.set_cons_succ, Option.some.injEq, FV.bool.injEq, FV.int.injEq, most, deep, wrap64, wrapu64, wrapu8, wrapi8]
        refine ⟨.mk t.k t.w t.b t.s t.lo e [], by rw [hk]; rfl, by rw [putT_eq, if_neg hm, er_eq, er_eq]; show Tm'.mk t.k t.w t.b t.s t.lo false [] = Tm'.mk t.k t.w t.b t.s t.lo false ((t.l.map (putT n u)).map er); rw [hl0]; rfl⟩
      · simp (disch := first | omega | (simp only [List.length_append, List.length_map, List.length_cons, List.length_nil, List.length_replicate, List.length_drop, List.length_take]; omega) | (simp only [hget_c, Nat.reduceEqDiff, ↓reduceIte]; done) | assumption | (simp (disch := omega) only [hg_ne, hg_eq, hgs_ne, *]; done) | (simp only [LAWSb]; done) | with_unfolding_all rfl) only [c34, LAWSb, EV1, EV2, EV3, EV4, EV5, EV6, List.map_cons, List.map_nil, w_lp1, w_lp0, ca_0, ca_s, Nat.reduceAdd, Nat.reduceSub, Int.reduceToNat, Nat.reduceMul, Nat.reduceEqDiff, Nat.reduceLeDiff, Int.reduceEq, Int.reduceLT, Int.reduceLE, ↓reduceIte, List.length_cons, List.length_nil, List.getElem?_cons_zero, List.getElem?_cons_succ, if_true, if_false, Ck_pos, List.all_cons, List.all_nil, Bool.and_self, Bool.and_true, Bool.true_and, beq_self_eq_true, eq_self, Bool.not_true, Bool.not_false, decide_true, decide_false, and_self, true_and, and_true, List.drop_zero, List.drop_succ_cons, List.take_succ_cons, List.take_zero, List.take_nil, List.drop_nil, List.cons_append, List.nil_append, List.append_nil, Int.toNat_natCast, List.length_map, Nat.le_refl, Nat.zero_add, Nat.sub_zero, Nat.add_zero, take_full, List.replicate_succ, List.replicate_zero, List.set_cons_zero, List.set_cons_succ, Option.some.injEq, FV.bool.injEq, FV.int.injEq, most, deep, wrap64, wrapu64, wrapu8, wrapi8]
        exact main id (by omega) t.l.length 0 xs _ _ (by omega) (by omega) (by rw [hg_ne (by omega)]; exact r0) (by rw [hg_ne (by omega)]; exact r1) ⟨_, _, _, _, _, _, by rw [hg_ne (by omega)]; exact r2⟩ hg_eq (by rw [hg_ne (by omega)]; exact g) (Half.zero hr)
    · simp (disch := first | omega | (simp only [List.length_append, List.length_map, List.length_cons, List.length_nil, List.length_replicate, List.length_drop, List.length_take]; omega) | (simp only [hget_c, Nat.reduceEqDiff, ↓reduceIte]; done) | assumption | (simp (disch := omega) only [hg_ne, hg_eq, hgs_ne, *]; done) | (simp only [LAWSb]; done) | with_unfolding_all rfl) only [c34, LAWSb, hk, EV1, EV2, EV3, EV4, EV5, EV6, List.map_cons, List.map_nil, w_lp1, w_lp0, ca_0, ca_s, Nat.reduceAdd, Nat.reduceSub, Int.reduceToNat, Nat.reduceMul, Nat.reduceEqDiff, Nat.reduceLeDiff, Int.reduceEq, Int.reduceLT, Int.reduceLE, ↓reduceIte, List.length_cons, List.length_nil, List.getElem?_cons_zero, List.getElem?_cons_succ, if_true, if_false, Ck_pos, List.all_cons, List.all_nil, Bool.and_self, Bool.and_true, Bool.true_and, beq_self_eq_true, eq_self, Bool.not_true, Bool.not_false, decide_true, decide_false, and_self, true_and, and_true, List.drop_zero, List.drop_succ_cons, List.take_succ_cons, List.take_zero, List.take_nil, List.drop_nil, List.cons_append, List.nil_append, List.append_nil, Int.toNat_natCast, List.length_map, Nat.le_refl, Nat.zero_add, Nat.sub_zero, Nat.add_zero, take_full, List.replicate_succ, List.replicate_zero, List.set_cons_zero, List.set_cons_succ, Option.some.injEq, FV.bool.injEq, FV.int.injEq, most, deep, wrap64, wrapu64, wrapu8, wrapi8]
      have htw := rTwin_spec t hl
      refine Ok_call (htw _ _) fun r hr => ?_
      obtain ⟨v, h2, nx2⟩ := r
      obtain ⟨hv, x1, x2⟩ := hr
      dsimp only at hv x1 x2
      obtain ⟨c, rfl, hc⟩ := RpT_iff.1 hv
      have cok : c.one = true ∧ c.cells.length = 1 := by
        rcases hc with ⟨e, rfl, _⟩ | ⟨id, xs, rfl, _⟩ <;> exact ⟨rfl, rfl⟩
      have r0 := (x2 0 (by omega)).trans (by simp (disch := omega) only [hg_ne, hg_eq] : _ = some (Obj.row 6 [.agg [.int .u8 (t).k, .int .i64 (t).w, .int .u64 (t).b, .str (t).s, .int .i64 (t).lo, .lst (t).e ((t).l.map tV)]]))
      have r1 := (x2 1 (by omega)).trans (by simp (disch := omega) only [hg_ne, hg_eq] : _ = some (Obj.row 6 [.agg [.int .u8 (u).k, .int .i64 (u).w, .int .u64 (u).b, .str (u).s, .int .i64 (u).lo, .lst (u).e ((u).l.map tV)]]))
      have r2 := (x2 2 (by omega)).trans (by simp (disch := omega) only [hg_ne, hg_eq] : _ = some (Obj.row 6 [.agg [.int .u8 0, .int .i64 0, .int .u64 0, .str [], .int .i64 0, .lst true []]]))
      refine ⟨rfl, ?_⟩
      rcases hc with ⟨e, rfl, hl0⟩ | ⟨id, xs, rfl, i1, i2, g, hr⟩
      · simp (disch := first | omega | (simp only [List.length_append, List.length_map, List.length_cons, List.length_nil, List.length_replicate, List.length_drop, List.length_take]; omega) | (simp only [hget_c, Nat.reduceEqDiff, ↓reduceIte]; done) | assumption | (simp (disch := omega) only [hg_ne, hg_eq, hgs_ne, *]; done) | (simp only [LAWSb]; done) | with_unfolding_all rfl) only [c34, LAWSb, unf b34_0.eq_1, unf k34_1.eq_1, r0, r1, r2, hl0, hz, hgs_ne, hgx_e, Option.map_some, EV1, EV2, EV3, EV4, EV5, EV6, List.map_cons, List.map_nil, w_lp1, w_lp0, ca_0, ca_s, Nat.reduceAdd, Nat.reduceSub, Int.reduceToNat, Nat.reduceMul, Nat.reduceEqDiff, Nat.reduceLeDiff, Int.reduceEq, Int.reduceLT, Int.reduceLE, ↓reduceIte, List.length_cons, List.length_nil, List.getElem?_cons_zero, List.getElem?_cons_succ, if_true, if_false, Ck_pos, List.all_cons, List.all_nil, Bool.and_self, Bool.and_true, Bool.true_and, beq_self_eq_true, eq_self, Bool.not_true, Bool.not_false, decide_true, decide_false, and_self, true_and, and_true, List.drop_zero, List.drop_succ_cons, List.take_succ_cons, List.take_zero, List.take_nil, List.drop_nil, List.cons_append, List.nil_append, List.append_nil, Int.toNat_natCast, List.length_map, Nat.le_refl, Nat.zero_add, Nat.sub_zero, Nat.add_zero, take_full, List.replicate_succ, List.replicate_zero, List.set_cons_zero, List.set_cons_succ, Option.some.injEq, FV.bool.injEq, FV.int.injEq, most, deep, wrap64, wrapu64, wrapu8, wrapi8]
        exact ⟨.mk t.k t.w t.b t.s t.lo e [], rfl, by rw [putT_eq, if_neg hm, er_eq, er_eq]; show Tm'.mk t.k t.w t.b t.s t.lo false [] = Tm'.mk t.k t.w t.b t.s t.lo false ((t.l.map (putT n u)).map er); rw [hl0]; rfl⟩
      · simp (disch := first | omega | (simp only [List.length_append, List.length_map, List.length_cons, List.length_nil, List.length_replicate, List.length_drop, List.length_take]; omega) | (simp only [hget_c, Nat.reduceEqDiff, ↓reduceIte]; done) | assumption | (simp (disch := omega) only [hg_ne, hg_eq, hgs_ne, *]; done) | (simp only [LAWSb]; done) | with_unfolding_all rfl) only [c34, LAWSb, EV1, EV2, EV3, EV4, EV5, EV6, List.map_cons, List.map_nil, w_lp1, w_lp0, ca_0, ca_s, Nat.reduceAdd, Nat.reduceSub, Int.reduceToNat, Nat.reduceMul, Nat.reduceEqDiff, Nat.reduceLeDiff, Int.reduceEq, Int.reduceLT, Int.reduceLE, ↓reduceIte, List.length_cons, List.length_nil, List.getElem?_cons_zero, List.getElem?_cons_succ, if_true, if_false, Ck_pos, List.all_cons, List.all_nil, Bool.and_self, Bool.and_true, Bool.true_and, beq_self_eq_true, eq_self, Bool.not_true, Bool.not_false, decide_true, decide_false, and_self, true_and, and_true, List.drop_zero, List.drop_succ_cons, List.take_succ_cons, List.take_zero, List.take_nil, List.drop_nil, List.cons_append, List.nil_append, List.append_nil, Int.toNat_natCast, List.length_map, Nat.le_refl, Nat.zero_add, Nat.sub_zero, Nat.add_zero, take_full, List.replicate_succ, List.replicate_zero, List.set_cons_zero, List.set_cons_succ, Option.some.injEq, FV.bool.injEq, FV.int.injEq, most, deep, wrap64, wrapu64, wrapu8, wrapi8]
        exact main id (by omega) t.l.length 0 xs _ _ (by omega) (by omega) (by rw [hg_ne (by omega)]; exact r0) (by rw [hg_ne (by omega)]; exact r1) ⟨_, _, _, _, _, _, by rw [hg_ne (by omega)]; exact r2⟩ hg_eq (by rw [hg_ne (by omega)]; exact g) (Half.zero hr)
end Go.Proofs.YtkobnfjeehnhlaaDoor.Fi
