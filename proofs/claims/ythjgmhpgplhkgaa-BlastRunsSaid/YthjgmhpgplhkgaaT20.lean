/- A part of the proof: see the last text. -/
import Derived.Test.YthjgmhpgplhkgaaT14
set_option linter.unusedSimpArgs false
set_option linter.unusedVariables false
namespace Go.Proofs.Ythjgmhpgplhkgaa.Fi
open Go.FI
theorem tg12 : tget T 12 = some (.fn c12) := by rfl
theorem tg13 : tget T 13 = some (.fn c13) := by rfl
theorem tg18 : tget T 18 = some (.fn c18) := by rfl
theorem tg21 : tget T 21 = some (.fn c21) := by rfl
theorem tg22 : tget T 22 = some (.fn c22) := by rfl
theorem tg23 : tget T 23 = some (.fn c23) := by rfl
theorem pu5 (l : List Bool) : pures (l.map .bool) = true := pures_map (fun _ => rfl) _
theorem pu6 (l : List Bool) : pure_ (.lst false (l.map .bool)) = true := by simp [pure_, pu5]
theorem lo5 (b : Nat) (l : List Bool) : lows b (l.map .bool) = true := lows_map (fun _ => rfl) _
theorem al5 (l : List Bool) : (l.map FV.bool).all FV.ok = true := all_map (fun _ => rfl) _
theorem cl5 (l : List Bool) : ((l.map FV.bool).all fun v => v.cells.length == 1) = true := all_map (fun _ => rfl) _
theorem gd5 {l : List Bool} {i : Nat} {d : FV} (h : i < l.length) : (l.map FV.bool).getD i d = .bool (l.getD i false) := getD_map _ h
theorem ge5 {l : List Bool} {i : Nat} (h : i < l.length) : (l.map FV.bool)[i]? = some (.bool (l.getD i false)) := by simp [List.getD, h]
theorem LAWS3 : type_of% (And.intro @ge5 <| And.intro pu5 <| And.intro lo5 <| And.intro al5 <| And.intro cl5 <| @gd5) := And.intro @ge5 <| And.intro pu5 <| And.intro lo5 <| And.intro al5 <| And.intro cl5 <| @gd5
def litB (ns : List Bool) (l : Int) : Bool := ns.getD (l / 2).toNat false != decide (l % 2 = 1)
theorem lit_spec (ns : List Bool) (l : Int) (h0 : 0 ≤ l) (h1 : l < 2 * ns.length) (h2 : ns.length ≤ 1000000) : ∀ h nx, isfR T c23 [.lst false (ns.map .bool), .int .i64 l] h nx = some (.bool (litB ns l), h, nx) := by
  intro h nx
  refine isfR_of rfl ?_
  simp (disch := first | omega | (simp only [List.length_append, List.length_map, List.length_cons, List.length_nil, List.length_replicate, List.length_drop, List.length_take]; omega) | (simp only [hget_c, Nat.reduceEqDiff, ↓reduceIte]; done) | assumption | (simp (disch := omega) only [hg_ne, hg_eq, hgs_ne, *]; done) | (simp only [LAWS, pu5, pu6]; done) | with_unfolding_all rfl) only [c23, tdiv_nn, tmod_nn, EV1, EV2, EV3, EV4, w_lp1, w_lp0, ca_0, ca_s, Nat.reduceAdd, Nat.reduceSub, Int.reduceToNat, Nat.reduceMul, Nat.reduceEqDiff, Nat.reduceLeDiff, ↓reduceIte, List.length_cons, List.length_nil, List.getElem?_cons_zero, List.getElem?_cons_succ, if_true, if_false, Ck_pos, List.all_cons, List.all_nil, Bool.and_self, Bool.and_true, Bool.true_and, beq_self_eq_true, eq_self, Bool.not_true, Bool.not_false, decide_true, decide_false, and_self, true_and, and_true, List.drop_zero, List.drop_succ_cons, List.take_succ_cons, List.take_zero, List.take_nil, List.drop_nil, List.cons_append, List.nil_append, List.append_nil, Int.toNat_natCast, List.length_map, Nat.le_refl, Nat.zero_add, Nat.sub_zero, Nat.add_zero, take_full, List.replicate_succ, List.replicate_zero, List.set_cons_zero, List.set_cons_succ, Option.some.injEq, FV.bool.injEq, FV.int.injEq, most, deep, wrap64, wrapu64, wrapu8, wrapi8]
  repeat' (refine Ok_if (fun hb => ?_) (fun hb => ?_) <;> have h := hb <;> (try simp only [decide_eq_true_eq, decide_eq_false_iff_not, Int.not_lt, Int.not_le] at h) <;> (simp (disch := first | omega | (simp only [List.length_append, List.length_map, List.length_cons, List.length_nil, List.length_replicate, List.length_drop, List.length_take]; omega) | (simp only [hget_c, Nat.reduceEqDiff, ↓reduceIte]; done) | assumption | (simp (disch := omega) only [hg_ne, hg_eq, hgs_ne, *]; done) | (simp only [LAWS, pu5, pu6]; done) | with_unfolding_all rfl) only [hb, c23, tdiv_nn, tmod_nn, LAWS3, EV1, EV2, EV3, EV4, w_lp1, w_lp0, ca_0, ca_s, Nat.reduceAdd, Nat.reduceSub, Int.reduceToNat, Nat.reduceMul, Nat.reduceEqDiff, Nat.reduceLeDiff, ↓reduceIte, List.length_cons, List.length_nil, List.getElem?_cons_zero, List.getElem?_cons_succ, if_true, if_false, Ck_pos, List.all_cons, List.all_nil, Bool.and_self, Bool.and_true, Bool.true_and, beq_self_eq_true, eq_self, Bool.not_true, Bool.not_false, decide_true, decide_false, and_self, true_and, and_true, List.drop_zero, List.drop_succ_cons, List.take_succ_cons, List.take_zero, List.take_nil, List.drop_nil, List.cons_append, List.nil_append, List.append_nil, Int.toNat_natCast, List.length_map, Nat.le_refl, Nat.zero_add, Nat.sub_zero, Nat.add_zero, take_full, List.replicate_succ, List.replicate_zero, List.set_cons_zero, List.set_cons_succ, Option.some.injEq, FV.bool.injEq, FV.int.injEq, most, deep, wrap64, wrapu64, wrapu8, wrapi8]) <;> (try clear hb))
  all_goals simp_all [litB]
theorem lows_app (b : Nat) (x y : List FV) : lows b (x ++ y) = (lows b x && lows b y) := by
  induction x with
  | nil => simp [lows]
  | cons v x ih => simp [lows, ih, Bool.and_assoc]
theorem lim23 (a b : FV) (h : Heap) (nx : Nat) : lim T 23 [a, b] h nx = @FI.B (List FV) (FV × Heap × Nat) (frzs h deep [a, b]) ⟨fun q => isfR T c23 q h nx⟩ := lim_isf tg23 rfl rfl
theorem lim21 (a b : FV) (h : Heap) (nx : Nat) : lim T 21 [a, b] h nx = @FI.B Out (FV × Heap × Nat) (runs T [.code c21.body] (params 0 [a, b]) h nx) ⟨fun x => @FI.B FV (FV × Heap × Nat) (finV c21.res x) ⟨fun v => some (v, x.2.2.1, x.2.2.2)⟩⟩ := lim_shr tg21 rfl rfl
def nodesS (inb : List Bool) (gs : Ga) : Nat → List Bool
  | 0 => false :: inb
  | i + 1 => nodesS inb gs i ++ [litB (nodesS inb gs i) (gs.getD i (0, 0)).1 && litB (nodesS inb gs i) (gs.getD i (0, 0)).2]
theorem nodesS_len (inb : List Bool) (gs : Ga) : ∀ i, (nodesS inb gs i).length = 1 + inb.length + i := by
  intro i
  induction i with
  | zero => simp [nodesS]; omega
  | succ i ih => simp [nodesS, ih]; omega
theorem snoc {α β : Type} (f : α → β) (l : List α) (a : α) : l.map f ++ [f a] = (l ++ [a]).map f := by simp
theorem snocB (l : List Bool) (a : Bool) : l.map FV.bool ++ [FV.bool a] = (l ++ [a]).map FV.bool := by simp
def outsS (ns : List Bool) (outs : List Int) : List Bool := outs.map (litB ns)
theorem take_snoc {α : Type} (l : List α) (i : Nat) (d : α) (h : i < l.length) : l.take i ++ [l.getD i d] = l.take (i + 1) := by
  rw [List.take_add_one]; simp [List.getD, h]
theorem c22_loop {e1 e2 e3} (ins : In) (gs : Ga) (outs : List Int) (inb : List Bool) (hs : Small ins gs outs) (hl : inb.length = ins.length) (hg : goodC ins gs outs) : ∀ (k i n : Nat) (ns : List Bool), i + k = gs.length → ns = nodesS inb gs i → n = ns.length →
    @Ok Out (runs T [.code b22_0, .inL (some 7) b22_0, .inB 0, .code k22_1] [(2, .ptr 0 1 0 0), (5, .sref 1 2 n 0 n), (6, .int .i64 i)] [(2, .row 1 (ns.map .bool)), (0, .row 3 [circV e1 e2 e3 ins gs outs])] 7) ⟨fun x => resV c22.res x = some (.lst false ((nodesS inb gs gs.length).map .bool))⟩ := by
  obtain ⟨h1, h2, h3⟩ := hs
  intro k
  induction k with
  | zero =>
    intro i n ns hi hns hn
    have : ¬ (i : Int) < gs.length := by omega
    have hlen := nodesS_len inb gs i
    rw [← hns] at hlen
    simp (disch := first | omega | (simp only [List.length_append, List.length_map, List.length_cons, List.length_nil, List.length_replicate, List.length_drop, List.length_take]; omega) | (simp only [hget_c, Nat.reduceEqDiff, ↓reduceIte]; done) | assumption | (simp (disch := omega) only [hg_ne, hg_eq, hgs_ne, *]; done) | (simp only [LAWS, pu5, pu6]; done) | with_unfolding_all rfl) only [unf b22_0.eq_1, unf k22_1.eq_1, c22, circV, this, LAWS, LAWS3, EV1, EV2, EV3, EV4, w_lp1, w_lp0, ca_0, ca_s, Nat.reduceAdd, Nat.reduceSub, Int.reduceToNat, Nat.reduceMul, Nat.reduceEqDiff, Nat.reduceLeDiff, ↓reduceIte, List.length_cons, List.length_nil, List.getElem?_cons_zero, List.getElem?_cons_succ, if_true, if_false, Ck_pos, List.all_cons, List.all_nil, Bool.and_self, Bool.and_true, Bool.true_and, beq_self_eq_true, eq_self, Bool.not_true, Bool.not_false, decide_true, decide_false, and_self, true_and, and_true, List.drop_zero, List.drop_succ_cons, List.take_succ_cons, List.take_zero, List.take_nil, List.drop_nil, List.cons_append, List.nil_append, List.append_nil, Int.toNat_natCast, List.length_map, Nat.le_refl, Nat.zero_add, Nat.sub_zero, Nat.add_zero, take_full, List.replicate_succ, List.replicate_zero, List.set_cons_zero, List.set_cons_succ, Option.some.injEq, FV.bool.injEq, FV.int.injEq, most, deep, wrap64, wrapu64, wrapu8, wrapi8]
    subst hns
    rw [show i = gs.length by omega]
  | succ k ih =>
    intro i n ns hi hns hn
    have : (i : Int) < gs.length := by omega
    have hlen := nodesS_len inb gs i
    rw [← hns] at hlen
    have gi := hg.2.1 i (by omega)
    unfold goodG at gi
    have e : ∀ b, b = (litB ns (gs.getD i (0, 0)).1 && litB ns (gs.getD i (0, 0)).2) → ns ++ [b] = nodesS inb gs (i + 1) := fun b hb => by
      rw [hb, hns]; rfl
    simp (disch := first | omega | (simp only [List.length_append, List.length_map, List.length_cons, List.length_nil, List.length_replicate, List.length_drop, List.length_take]; omega) | (simp only [hget_c, Nat.reduceEqDiff, ↓reduceIte]; done) | assumption | (simp (disch := omega) only [hg_ne, hg_eq, hgs_ne, *]; done) | (simp only [LAWS, pu5, pu6]; done) | with_unfolding_all rfl) only [unf b22_0.eq_1, c22, circV, this, LAWS, LAWS3, lim23, lit_spec, EV1, EV2, EV3, EV4, w_lp1, w_lp0, ca_0, ca_s, Nat.reduceAdd, Nat.reduceSub, Int.reduceToNat, Nat.reduceMul, Nat.reduceEqDiff, Nat.reduceLeDiff, ↓reduceIte, List.length_cons, List.length_nil, List.getElem?_cons_zero, List.getElem?_cons_succ, if_true, if_false, Ck_pos, List.all_cons, List.all_nil, Bool.and_self, Bool.and_true, Bool.true_and, beq_self_eq_true, eq_self, Bool.not_true, Bool.not_false, decide_true, decide_false, and_self, true_and, and_true, List.drop_zero, List.drop_succ_cons, List.take_succ_cons, List.take_zero, List.take_nil, List.drop_nil, List.cons_append, List.nil_append, List.append_nil, Int.toNat_natCast, List.length_map, Nat.le_refl, Nat.zero_add, Nat.sub_zero, Nat.add_zero, take_full, List.replicate_succ, List.replicate_zero, List.set_cons_zero, List.set_cons_succ, Option.some.injEq, FV.bool.injEq, FV.int.injEq, most, deep, wrap64, wrapu64, wrapu8, wrapi8]
    repeat' (refine Ok_if (fun hb => ?_) (fun hb => ?_) <;> have h := hb <;> (try simp only [decide_eq_true_eq, decide_eq_false_iff_not, Int.not_lt, Int.not_le] at h) <;> (simp (disch := first | omega | (simp only [List.length_append, List.length_map, List.length_cons, List.length_nil, List.length_replicate, List.length_drop, List.length_take]; omega) | (simp only [hget_c, Nat.reduceEqDiff, ↓reduceIte]; done) | assumption | (simp (disch := omega) only [hg_ne, hg_eq, hgs_ne, *]; done) | (simp only [LAWS, pu5, pu6]; done) | with_unfolding_all rfl) only [hb, c22, circV, LAWS, LAWS3, lim23, lit_spec, EV1, EV2, EV3, EV4, w_lp1, w_lp0, ca_0, ca_s, Nat.reduceAdd, Nat.reduceSub, Int.reduceToNat, Nat.reduceMul, Nat.reduceEqDiff, Nat.reduceLeDiff, ↓reduceIte, List.length_cons, List.length_nil, List.getElem?_cons_zero, List.getElem?_cons_succ, if_true, if_false, Ck_pos, List.all_cons, List.all_nil, Bool.and_self, Bool.and_true, Bool.true_and, beq_self_eq_true, eq_self, Bool.not_true, Bool.not_false, decide_true, decide_false, and_self, true_and, and_true, List.drop_zero, List.drop_succ_cons, List.take_succ_cons, List.take_zero, List.take_nil, List.drop_nil, List.cons_append, List.nil_append, List.append_nil, Int.toNat_natCast, List.length_map, Nat.le_refl, Nat.zero_add, Nat.sub_zero, Nat.add_zero, take_full, List.replicate_succ, List.replicate_zero, List.set_cons_zero, List.set_cons_succ, Option.some.injEq, FV.bool.injEq, FV.int.injEq, most, deep, wrap64, wrapu64, wrapu8, wrapi8]) <;> (try clear hb))
    all_goals rw [snocB]
    all_goals refine Ok_inL (by decide) (by simp [lowTm, low]) (by simp [cutH, lowHeap, lowObj, lows, low, LAWS, LAWS3, circV, lows_app]) (ih (i + 1) _ _ (by omega) (e _ ?_) (by simp; omega))
    all_goals simp_all
theorem nodes_spec {e1 e2 e3 e ins gs outs} (inb : List Bool) (hs : Small ins gs outs) (hl : inb.length = ins.length) (hg : goodC ins gs outs) : ∀ h nx, lim T 22 [circV e1 e2 e3 ins gs outs, .lst e (inb.map .bool)] h nx = some (.lst false ((nodesS inb gs gs.length).map .bool), h, nx) := by
  obtain ⟨h1, h2, h3⟩ := id hs
  refine lim_iso tg22 rfl rfl (by simp [pures, pure_circ, pure_, pu5]) ?_
  simp (disch := first | omega | (simp only [List.length_append, List.length_map, List.length_cons, List.length_nil, List.length_replicate, List.length_drop, List.length_take]; omega) | (simp only [hget_c, Nat.reduceEqDiff, ↓reduceIte]; done) | assumption | (simp (disch := omega) only [hg_ne, hg_eq, hgs_ne, *]; done) | (simp only [LAWS, pu5, pu6]; done) | with_unfolding_all rfl) only [c22, circV, LAWS3, EV1, EV2, EV3, EV4, w_lp1, w_lp0, ca_0, ca_s, Nat.reduceAdd, Nat.reduceSub, Int.reduceToNat, Nat.reduceMul, Nat.reduceEqDiff, Nat.reduceLeDiff, ↓reduceIte, List.length_cons, List.length_nil, List.getElem?_cons_zero, List.getElem?_cons_succ, if_true, if_false, Ck_pos, List.all_cons, List.all_nil, Bool.and_self, Bool.and_true, Bool.true_and, beq_self_eq_true, eq_self, Bool.not_true, Bool.not_false, decide_true, decide_false, and_self, true_and, and_true, List.drop_zero, List.drop_succ_cons, List.take_succ_cons, List.take_zero, List.take_nil, List.drop_nil, List.cons_append, List.nil_append, List.append_nil, Int.toNat_natCast, List.length_map, Nat.le_refl, Nat.zero_add, Nat.sub_zero, Nat.add_zero, take_full, List.replicate_succ, List.replicate_zero, List.set_cons_zero, List.set_cons_succ, Option.some.injEq, FV.bool.injEq, FV.int.injEq, most, deep, wrap64, wrapu64, wrapu8, wrapi8]
  exact c22_loop ins gs outs inb hs hl hg gs.length 0 _ (false :: inb) (by omega) rfl (by simp; omega)
end Go.Proofs.Ythjgmhpgplhkgaa.Fi

