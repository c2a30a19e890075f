/- Parts of the proof, after each other. -/
import Derived.Test.YtkobnfjeehnhlaaDoorP4
import Derived.Test.YtkobnfjeehnhlaaDoorP2
import Derived.Test.YtkobnfjeehnhlaaDoorFIMr
import Derived.Test.YtkobnfjeehnhlaaDoorFIPut
set_option linter.all false
set_option linter.unusedSimpArgs false
set_option linter.unusedVariables false
set_option linter.unusedSectionVars false
namespace Go.Proofs.YtkobnfjeehnhlaaDoor.Fi
open Go.FI

open Go.Sort (PermIn SortedIn)
theorem bS0 : bS = bd0 := rfl
def VP (q iid : Nat) (dn : List (FV × FV)) (m : Tm) (h : Heap) (nx : Nat) : Prop := ∃ D : Env0, dn = D.map kvV ∧ keepOf m c12.keep0 = [(2, .lst true []), (3, .int .i64 0), (7, .sref 3 q D.length 0 D.length), (21, .ptr iid 1 0 0)] ∧ hget h q = some (.row 3 (D.map bd0)) ∧ q < nx ∧ iid < nx ∧ iid ≠ q
theorem vars_step (q iid : Nat) (en : Env0) (hen : en.length ≤ 400) (dn : List (FV × FV)) (e : FV × FV) (rest : List (FV × FV)) (m : Tm) (h : Heap) (nx : Nat) (hp : (dn ++ e :: rest).Perm (en.map kvV)) (hP : VP q iid dn m h nx) :
    ∃ y, runIt (rops (np (lim T))) (runs T) c12 e (keepOf m c12.keep0) h nx = some y ∧ VP q iid (dn ++ [e]) y.1 y.2.1 y.2.2 := by
  obtain ⟨D, rfl, h1, h2, h3, h4, h5⟩ := hP
  have he : e ∈ en.map kvV := hp.mem_iff.1 (by simp)
  obtain ⟨p, _, rfl⟩ := List.mem_map.1 he
  have hlen : D.length + 1 ≤ 400 := by
    have := hp.length_eq
    simp only [List.length_append, List.length_map, List.length_cons] at this
    omega
  rw [h1]
  unfold runIt
  show @Ok (Tm × Heap × Nat) (@FI.B (Tm × Heap × Nat) (Tm × Heap × Nat) (rops _ _ _ _ _ _) ⟨_⟩) ⟨_⟩
  simp only [c12, kvV]
  simp (disch := first | omega | (simp only [EVL] <;> omega) | (simp only [hget_c, Nat.reduceEqDiff, ↓reduceIte]; done) | assumption | (simp (disch := omega) only [hg_ne, hg_eq, hgs_ne, *]; done) | (simp only [rb_len, LAWSb, List.length_map]; done) | with_unfolding_all rfl) only [EVS, Nat.reduceAdd, Nat.reduceSub, Int.reduceToNat, Nat.reduceMul, Nat.reduceEqDiff, Nat.reduceLeDiff, Int.reduceEq, Int.reduceLT, Int.reduceLE, ↓reduceIte]
  refine Ok_part ?_
  simp (disch := first | omega | (simp only [EVL] <;> omega) | (simp only [hget_c, Nat.reduceEqDiff, ↓reduceIte]; done) | assumption | (simp (disch := omega) only [hg_ne, hg_eq, hgs_ne, *]; done) | (simp only [rb_len, LAWSb, List.length_map]; done) | with_unfolding_all rfl) only [c12, unf b12_0.eq_1, h2, EVS, Nat.reduceAdd, Nat.reduceSub, Int.reduceToNat, Nat.reduceMul, Nat.reduceEqDiff, Nat.reduceLeDiff, Int.reduceEq, Int.reduceLT, Int.reduceLE, ↓reduceIte]
  exact ⟨D ++ [p], by simp [kvV], by simp, by rw [hgs_eq h2]; simp [bd0], by omega, by omega, h5⟩
theorem toList_toArray (D : Env0) : D.toArray.toList = D := rfl
theorem vars_fin (t : Te) (q iid : Nat) (en : Env0) (hv : varsE t = .inl en) (hen : en.length ≤ 400) (dn : List (FV × FV)) (m : Tm) (h : Heap) (nx : Nat) (hp : dn.Perm (en.map kvV)) (hP : VP q iid dn m h nx) :
    bnd (runs T [.code c12.post] (keepOf m c12.keep0) h nx) (resM c12.res) = some (.tup [.lst false ((insE [] (varList t)).map bd0), .int .i64 0]) := by
  obtain ⟨D, rfl, h1, h2, h3, h4, h5⟩ := hP
  have hpD : D.Perm en := by
    have := hp.map (fun e : FV × FV => match e with | (.str n, .int _ w) => (n, w) | _ => (([] : List UInt8), (0 : Int)))
    simpa [List.map_map, Function.comp_def, kvV] using this
  have hlen : D.length ≤ 400 := by rw [hpD.length_eq]; exact hen
  rw [h1]
  refine Ok_eq ?_
  show @Ok FV (@FI.B Out FV (runs _ _ _ _ _) ⟨_⟩) ⟨_⟩
  refine Ok_part ?_
  simp only [c12]
  simp (disch := first | omega | (simp only [EVL] <;> omega) | (simp only [hget_c, Nat.reduceEqDiff, ↓reduceIte]; done) | assumption | (simp (disch := omega) only [hg_ne, hg_eq, hgs_ne, *]; done) | (simp only [rb_len, LAWSb, List.length_map]; done) | with_unfolding_all rfl) only [unf k12_1.eq_1, EVS, Nat.reduceAdd, Nat.reduceSub, Int.reduceToNat, Nat.reduceMul, Nat.reduceEqDiff, Nat.reduceLeDiff, Int.reduceEq, Int.reduceLT, Int.reduceLE, ↓reduceIte]
  refine Ok_call (sortF_spec q D.length D.toArray (by omega) (by simp) h _ (by omega) h2) fun r hr => ?_
  obtain ⟨r1, d', p1, p2, p3, p4⟩ := hr
  rw [r1]
  refine ⟨rfl, ?_⟩
  obtain ⟨s1, s2⟩ := SL_sorted (n := D.length) (by simp) p3 p1 p2 (by
    show ND D
    exact List.Perm.pairwise hpD.symm (varsE_nd hv) (fun h => Ne.symm h))
  have hone := vars_one hv s1 fun p => by rw [s2]; exact hpD.mem_iff
  have hrow := p4.1
  have hl : d'.toList.length = D.length := by rw [← p3]; simp
  unfold rowB at hrow
  rw [bS0, hone] at hrow
  rw [hone] at hl
  generalize insE [] (varList t) = L at *
  have hl2 : L.length ≤ 400 := by omega
  rw [← hl]
  simp (disch := first | omega | (simp only [EVL] <;> omega) | (simp only [hget_c, Nat.reduceEqDiff, ↓reduceIte]; done) | assumption | (simp (disch := omega) only [hg_ne, hg_eq, hgs_ne, *]; done) | (simp only [rb_len, LAWSb, List.length_map]; done) | with_unfolding_all rfl) only [resM_r, bnd_s, c12, hrow, EVS, Nat.reduceAdd, Nat.reduceSub, Int.reduceToNat, Nat.reduceMul, Nat.reduceEqDiff, Nat.reduceLeDiff, Int.reduceEq, Int.reduceLT, Int.reduceLE, ↓reduceIte]
open Classical in
noncomputable def varsV (e : Bool) (t : Te) : FV := if checkS t = 0 then .tup [.lst e ((insE [] (varList t)).map bd0), .int .i64 0] else .tup [.lst true [], .int .i64 (checkS t)]
theorem vars_spec (t : Te) (hl : size t ≤ 1000000) (hk : KOk t) : ∀ h nx, lim T 12 [.agg [.int .u8 (t).k, .int .i64 (t).w, .int .u64 (t).b, .str (t).s, .int .i64 (t).lo, .lst (t).e ((t).l.map tV)]] h nx = some (varsV false t, h, nx) := by
  have hck := check_pure t hl hk
  refine lim_mr tg12 (mr_ok rfl (by simp [pures, pure_, pu_Ts]) ?_)
  refine Ok_pre ?_
  simp (disch := first | omega | (simp only [EVL] <;> omega) | (simp only [hget_c, Nat.reduceEqDiff, ↓reduceIte]; done) | assumption | (simp (disch := omega) only [hg_ne, hg_eq, hgs_ne, *]; done) | (simp only [rb_len, LAWSb, List.length_map]; done) | with_unfolding_all rfl) only [c12, EVS, Nat.reduceAdd, Nat.reduceSub, Int.reduceToNat, Nat.reduceMul, Nat.reduceEqDiff, Nat.reduceLeDiff, Int.reduceEq, Int.reduceLT, Int.reduceLE, ↓reduceIte]
  refine Ok_pre ?_
  by_cases hc : checkS t = 0
  · have hv : ∃ en, varsE t = .inl en ∧ size t ≤ 400 := by
      unfold checkS at hc
      split at hc
      · cases hc
      · split at hc
        · split at hc
          · rename_i en he; exact ⟨en, he, by omega⟩
          · cases hc
        · cases hc
    obtain ⟨en, hv, hs⟩ := hv
    have hvv : varsV false t = .tup [.lst false ((insE [] (varList t)).map bd0), .int .i64 0] := if_pos hc
    rw [hvv]
    simp (disch := first | omega | (simp only [EVL] <;> omega) | (simp only [hget_c, Nat.reduceEqDiff, ↓reduceIte]; done) | assumption | (simp (disch := omega) only [hg_ne, hg_eq, hgs_ne, *]; done) | (simp only [rb_len, LAWSb, List.length_map]; done) | with_unfolding_all rfl) only [c12, TL, hck, hc, EVS, Nat.reduceAdd, Nat.reduceSub, Int.reduceToNat, Nat.reduceMul, Nat.reduceEqDiff, Nat.reduceLeDiff, Int.reduceEq, Int.reduceLT, Int.reduceLE, ↓reduceIte]
    refine Ok_pre ?_
    simp (disch := first | omega | (simp only [EVL] <;> omega) | (simp only [hget_c, Nat.reduceEqDiff, ↓reduceIte]; done) | assumption | (simp (disch := omega) only [hg_ne, hg_eq, hgs_ne, *]; done) | (simp only [rb_len, LAWSb, List.length_map]; done) | with_unfolding_all rfl) only [c12, TL, EVS, Nat.reduceAdd, Nat.reduceSub, Int.reduceToNat, Nat.reduceMul, Nat.reduceEqDiff, Nat.reduceLeDiff, Int.reduceEq, Int.reduceLT, Int.reduceLE, ↓reduceIte]
    refine Ok_call (variables_spec t hl _ _) fun r hr => ?_
    obtain ⟨v, h', nx'⟩ := r
    rw [hv] at hr
    obtain ⟨rfl, q1, q2, q3⟩ := hr
    dsimp only at q1 q2 q3
    refine ⟨rfl, ?_⟩
    simp (disch := first | omega | (simp only [EVL] <;> omega) | (simp only [hget_c, Nat.reduceEqDiff, ↓reduceIte]; done) | assumption | (simp (disch := omega) only [hg_ne, hg_eq, hgs_ne, *]; done) | (simp only [rb_len, LAWSb, List.length_map]; done) | with_unfolding_all rfl) only [c12, EVS, Nat.reduceAdd, Nat.reduceSub, Int.reduceToNat, Nat.reduceMul, Nat.reduceEqDiff, Nat.reduceLeDiff, Int.reduceEq, Int.reduceLT, Int.reduceLE, ↓reduceIte]
    refine Ok_pre ?_
    simp (disch := first | omega | (simp only [EVL] <;> omega) | (simp only [hget_c, Nat.reduceEqDiff, ↓reduceIte]; done) | assumption | (simp (disch := omega) only [hg_ne, hg_eq, hgs_ne, *]; done) | (simp only [rb_len, LAWSb, List.length_map]; done) | with_unfolding_all rfl) only [c12, EVS, Nat.reduceAdd, Nat.reduceSub, Int.reduceToNat, Nat.reduceMul, Nat.reduceEqDiff, Nat.reduceLeDiff, Int.reduceEq, Int.reduceLT, Int.reduceLE, ↓reduceIte]
    refine Ok_pre0 ?_
    refine ⟨18, en.map kvV, rfl, by (simp (disch := omega) only [hg_ne, hg_eq, hgs_ne, hgx_e, Option.map_some, *]), ?_⟩
    have hlen : en.length ≤ 400 := by
      have h1 := (List.perm_ext_iff_of_nodup (List.Pairwise.imp (fun {a b} hab e => hab (by rw [e])) (varsE_nd hv)) (insE_spec (varList t) [] [] List.Pairwise.nil (fun _ => Iff.rfl) (by simpa using (varsE_in hv).1)).1.nodup).2 fun p => by rw [varsE_mem hv, (insE_spec (varList t) [] [] List.Pairwise.nil (fun _ => Iff.rfl) (by simpa using (varsE_in hv).1)).2 p]; simp
      have h2 : ∀ (L out : Env0), (insE out L).length ≤ out.length + L.length := by
        intro L
        induction L with
        | nil => intro out; exact Nat.le_refl _
        | cons p L ih => intro out; have := ih (stepE out p); have := stepE_len out p; simp only [insE, List.length_cons]; omega
      have h3 := h2 (varList t) []
      have h4 : (varList t).length ≤ size t := by have := varL_len (nodesT t); rw [nodesT_len] at this; exact this
      have h5 := h1.length_eq
      simp only [List.length_nil] at h3
      omega
    refine runAll_inv (en := en.map kvV) (VP nx' (nx' + 1)) (fun dn m h nx hP => ?_) (fun dn e rest m h nx hp hP => vars_step nx' (nx' + 1) en hlen dn e rest m h nx hp hP) (fun dn m h nx hp hP => vars_fin t nx' (nx' + 1) en hv hlen dn m h nx hp hP) _ _ [] _ _ _ (Nat.le_refl _) (List.Perm.refl _) ?_
    · obtain ⟨D, _, h1, _⟩ := hP
      rw [h1]
      simp [gt, c12, eqv]
    · refine ⟨[], rfl, ?_, ?_, by dsimp only; omega, by dsimp only; omega, by omega⟩
      · simp [keepOf, gt, put, c12]
      · simp (disch := omega) only [hg_ne, hg_eq, hgs_ne, List.map_nil]
  · have hvv : varsV false t = .tup [.lst true [], .int .i64 (checkS t)] := if_neg hc
    rw [hvv]
    have hc' : decide (checkS t = 0) = false := by simp; exact hc
    simp (disch := first | omega | (simp only [EVL] <;> omega) | (simp only [hget_c, Nat.reduceEqDiff, ↓reduceIte]; done) | assumption | (simp (disch := omega) only [hg_ne, hg_eq, hgs_ne, *]; done) | (simp only [rb_len, LAWSb, List.length_map]; done) | with_unfolding_all rfl) only [c12, TL, hck, hc', EVS, Nat.reduceAdd, Nat.reduceSub, Int.reduceToNat, Nat.reduceMul, Nat.reduceEqDiff, Nat.reduceLeDiff, Int.reduceEq, Int.reduceLT, Int.reduceLE, ↓reduceIte]
    simp (disch := first | omega | (simp only [EVL] <;> omega) | (simp only [hget_c, Nat.reduceEqDiff, ↓reduceIte]; done) | assumption | (simp (disch := omega) only [hg_ne, hg_eq, hgs_ne, *]; done) | (simp only [rb_len, LAWSb, List.length_map]; done) | with_unfolding_all rfl) only [resM_r, bnd_s, EVS, Nat.reduceAdd, Nat.reduceSub, Int.reduceToNat, Nat.reduceMul, Nat.reduceEqDiff, Nat.reduceLeDiff, Int.reduceEq, Int.reduceLT, Int.reduceLE, ↓reduceIte]

theorem eqF_loop (a b : Te) (hl : a.l.length = b.l.length) (hb : a.l.length ≤ 1000000) (ih : ∀ x ∈ a.l, ∀ y ∈ b.l, ∀ h nx, lim T 22 [.agg [.int .u8 (x).k, .int .i64 (x).w, .int .u64 (x).b, .str (x).s, .int .i64 (x).lo, .lst (x).e ((x).l.map tV)], .agg [.int .u8 (y).k, .int .i64 (y).w, .int .u64 (y).b, .str (y).s, .int .i64 (y).lo, .lst (y).e ((y).l.map tV)]] h nx = some (.bool (sameT x y), h, nx)) : ∀ (k i : Nat), i + k = a.l.length →
    @Ok Out (runs T [.code b42_0, .inL (some 9) b42_0, .inB 0, .code k42_1] [(1, .lst b.e (b.l.map tV)), (2, .fn 22 []), (15, .lst a.e (a.l.map tV)), (16, .int .i64 a.l.length), (17, .int .i64 i)] [] 9) ⟨fun x => resV c42.res x = some (.bool (sameL (a.l.drop i) (b.l.drop i)))⟩ := by
  intro k
  induction k with
  | zero =>
    intro i hi
    have : ¬ (i : Int) < a.l.length := by omega
    simp (disch := first | omega | (simp only [EVL] <;> omega) | (simp only [hget_c, Nat.reduceEqDiff, ↓reduceIte]; done) | assumption | (simp (disch := omega) only [hg_ne, hg_eq, hgs_ne, *]; done) | (simp only [LAWSb]; done) | with_unfolding_all rfl) only [unf b42_0.eq_1, unf k42_1.eq_1, c42, this, LAWSb, EVS, Nat.reduceAdd, Nat.reduceSub, Int.reduceToNat, Nat.reduceMul, Nat.reduceEqDiff, Nat.reduceLeDiff, Int.reduceEq, Int.reduceLT, Int.reduceLE, ↓reduceIte]
    rw [List.drop_eq_nil_of_le (by omega), List.drop_eq_nil_of_le (by omega)]; rfl
  | succ k ihk =>
    intro i hi
    have : (i : Int) < a.l.length := by omega
    have hx := ih _ (getD_mem (d := default) (show i < a.l.length by omega)) _ (getD_mem (d := default) (show i < b.l.length by omega))
    rw [sameL_drop (by omega) (by omega)]
    cases hs : sameT (a.l.getD i default) (b.l.getD i default) with
    | true =>
      rw [hs] at hx
      simp (disch := first | omega | (simp only [EVL] <;> omega) | (simp only [hget_c, Nat.reduceEqDiff, ↓reduceIte]; done) | assumption | (simp (disch := omega) only [hg_ne, hg_eq, hgs_ne, *]; done) | (simp only [LAWSb]; done) | with_unfolding_all rfl) only [unf b42_0.eq_1, c42, this, LAWSb, hx, EVS, Nat.reduceAdd, Nat.reduceSub, Int.reduceToNat, Nat.reduceMul, Nat.reduceEqDiff, Nat.reduceLeDiff, Int.reduceEq, Int.reduceLT, Int.reduceLE, ↓reduceIte]
      rw [Bool.true_and]
      exact Ok_inL (by decide) (by simp [lowTm, low, lows, LAWSb]) (by simp [cutH, lowHeap, lowObj, lows, low, LAWSb]) (ihk (i + 1) (by omega))
    | false =>
      rw [hs] at hx
      simp (disch := first | omega | (simp only [EVL] <;> omega) | (simp only [hget_c, Nat.reduceEqDiff, ↓reduceIte]; done) | assumption | (simp (disch := omega) only [hg_ne, hg_eq, hgs_ne, *]; done) | (simp only [LAWSb]; done) | with_unfolding_all rfl) only [unf b42_0.eq_1, c42, this, LAWSb, hx, EVS, Nat.reduceAdd, Nat.reduceSub, Int.reduceToNat, Nat.reduceMul, Nat.reduceEqDiff, Nat.reduceLeDiff, Int.reduceEq, Int.reduceLT, Int.reduceLE, ↓reduceIte]
      rfl
theorem sameP_spec (a : Te) : ∀ (b : Te), size a ≤ 1000000 → size b ≤ 1000000 → ∀ h nx, lim T 22 [.agg [.int .u8 (a).k, .int .i64 (a).w, .int .u64 (a).b, .str (a).s, .int .i64 (a).lo, .lst (a).e ((a).l.map tV)], .agg [.int .u8 (b).k, .int .i64 (b).w, .int .u64 (b).b, .str (b).s, .int .i64 (b).lo, .lst (b).e ((b).l.map tV)]] h nx = some (.bool (sameT a b), h, nx) := by
  induction a using Tm'.ind with
  | h a ih =>
  intro b ha hb
  have hsa := sizes_len a.l
  have hsb := sizes_len b.l
  have hse := size_eq a
  have hsf := size_eq b
  have heq : ∀ h nx, lim T 42 [.lst a.e (a.l.map tV), .lst b.e (b.l.map tV), .fn 22 []] h nx = some (.bool (sameL a.l b.l), h, nx) := by
    refine lim_iso tg42 rfl rfl (by simp [pures, pure_, pu_Ts]) ?_
    by_cases hl : a.l.length = b.l.length
    · have hl' : (a.l.length : Int) = b.l.length := by omega
      simp (disch := first | omega | (simp only [EVL] <;> omega) | (simp only [hget_c, Nat.reduceEqDiff, ↓reduceIte]; done) | assumption | (simp (disch := omega) only [hg_ne, hg_eq, hgs_ne, *]; done) | (simp only [LAWSb]; done) | with_unfolding_all rfl) only [c42, LAWSb, hl', EVS, Nat.reduceAdd, Nat.reduceSub, Int.reduceToNat, Nat.reduceMul, Nat.reduceEqDiff, Nat.reduceLeDiff, Int.reduceEq, Int.reduceLT, Int.reduceLE, ↓reduceIte]
      have := eqF_loop a b hl (by omega) (fun x hx y hy => ih x hx y (by have := size_mem hx; omega) (by have := size_mem hy; omega)) a.l.length 0 (by omega)
      rw [List.drop_zero, List.drop_zero, hl] at this
      exact this
    · have hl' : ¬ (a.l.length : Int) = b.l.length := by omega
      simp (disch := first | omega | (simp only [EVL] <;> omega) | (simp only [hget_c, Nat.reduceEqDiff, ↓reduceIte]; done) | assumption | (simp (disch := omega) only [hg_ne, hg_eq, hgs_ne, *]; done) | (simp only [LAWSb]; done) | with_unfolding_all rfl) only [c42, LAWSb, hl', EVS, Nat.reduceAdd, Nat.reduceSub, Int.reduceToNat, Nat.reduceMul, Nat.reduceEqDiff, Nat.reduceLeDiff, Int.reduceEq, Int.reduceLT, Int.reduceLE, ↓reduceIte]
      cases hh : sameL a.l b.l with
      | false => rfl
      | true => exact absurd (sameL_len hh) hl
  rw [sameT_eq]
  refine lim_iso tg22 rfl rfl (by simp [pures, pure_, pu_Ts]) ?_
  by_cases e1 : a.k = b.k
  · by_cases e2 : a.w = b.w
    · by_cases e3 : a.b = b.b
      · cases e4 : (a.s == b.s) with
        | true =>
          by_cases e5 : a.lo = b.lo
          · simp (disch := first | omega | (simp only [EVL] <;> omega) | (simp only [hget_c, Nat.reduceEqDiff, ↓reduceIte]; done) | assumption | (simp (disch := omega) only [hg_ne, hg_eq, hgs_ne, *]; done) | (simp only [LAWSb]; done) | with_unfolding_all rfl) only [c22, LAWSb, e1, e2, e3, e4, e5, heq, decide_true, Bool.true_and, EVS, Nat.reduceAdd, Nat.reduceSub, Int.reduceToNat, Nat.reduceMul, Nat.reduceEqDiff, Nat.reduceLeDiff, Int.reduceEq, Int.reduceLT, Int.reduceLE, ↓reduceIte]
          · simp (disch := first | omega | (simp only [EVL] <;> omega) | (simp only [hget_c, Nat.reduceEqDiff, ↓reduceIte]; done) | assumption | (simp (disch := omega) only [hg_ne, hg_eq, hgs_ne, *]; done) | (simp only [LAWSb]; done) | with_unfolding_all rfl) only [c22, LAWSb, e1, e2, e3, e4, e5, heq, decide_true, decide_false, Bool.true_and, Bool.false_and, EVS, Nat.reduceAdd, Nat.reduceSub, Int.reduceToNat, Nat.reduceMul, Nat.reduceEqDiff, Nat.reduceLeDiff, Int.reduceEq, Int.reduceLT, Int.reduceLE, ↓reduceIte]
        | false => simp (disch := first | omega | (simp only [EVL] <;> omega) | (simp only [hget_c, Nat.reduceEqDiff, ↓reduceIte]; done) | assumption | (simp (disch := omega) only [hg_ne, hg_eq, hgs_ne, *]; done) | (simp only [LAWSb]; done) | with_unfolding_all rfl) only [c22, LAWSb, e1, e2, e3, e4, heq, decide_true, decide_false, Bool.true_and, Bool.false_and, EVS, Nat.reduceAdd, Nat.reduceSub, Int.reduceToNat, Nat.reduceMul, Nat.reduceEqDiff, Nat.reduceLeDiff, Int.reduceEq, Int.reduceLT, Int.reduceLE, ↓reduceIte]
      · simp (disch := first | omega | (simp only [EVL] <;> omega) | (simp only [hget_c, Nat.reduceEqDiff, ↓reduceIte]; done) | assumption | (simp (disch := omega) only [hg_ne, hg_eq, hgs_ne, *]; done) | (simp only [LAWSb]; done) | with_unfolding_all rfl) only [c22, LAWSb, e1, e2, e3, heq, decide_true, decide_false, Bool.true_and, Bool.false_and, EVS, Nat.reduceAdd, Nat.reduceSub, Int.reduceToNat, Nat.reduceMul, Nat.reduceEqDiff, Nat.reduceLeDiff, Int.reduceEq, Int.reduceLT, Int.reduceLE, ↓reduceIte]
    · simp (disch := first | omega | (simp only [EVL] <;> omega) | (simp only [hget_c, Nat.reduceEqDiff, ↓reduceIte]; done) | assumption | (simp (disch := omega) only [hg_ne, hg_eq, hgs_ne, *]; done) | (simp only [LAWSb]; done) | with_unfolding_all rfl) only [c22, LAWSb, e1, e2, heq, decide_true, decide_false, Bool.true_and, Bool.false_and, EVS, Nat.reduceAdd, Nat.reduceSub, Int.reduceToNat, Nat.reduceMul, Nat.reduceEqDiff, Nat.reduceLeDiff, Int.reduceEq, Int.reduceLT, Int.reduceLE, ↓reduceIte]
  · simp (disch := first | omega | (simp only [EVL] <;> omega) | (simp only [hget_c, Nat.reduceEqDiff, ↓reduceIte]; done) | assumption | (simp (disch := omega) only [hg_ne, hg_eq, hgs_ne, *]; done) | (simp only [LAWSb]; done) | with_unfolding_all rfl) only [c22, LAWSb, e1, heq, decide_true, decide_false, Bool.true_and, Bool.false_and, EVS, Nat.reduceAdd, Nat.reduceSub, Int.reduceToNat, Nat.reduceMul, Nat.reduceEqDiff, Nat.reduceLeDiff, Int.reduceEq, Int.reduceLT, Int.reduceLE, ↓reduceIte]
def hasL (xs : List Te) : Bool := xs.any fun x => decide (x.k = 24)
theorem hasL_app (xs ys : List Te) : hasL (xs ++ ys) = (hasL xs || hasL ys) := by simp [hasL]
abbrev loadG (_ : Unit) (x : Te) : Unit ⊕ Unit := if x.k = 24 then .inr () else .inl ()
theorem loadG_run : ∀ xs : List Te, foldE loadG () xs = if hasL xs = true then .inr () else .inl () := by
  intro xs
  induction xs with
  | nil => rfl
  | cons x xs ih =>
    by_cases h : x.k = 24
    · have e : loadG () x = .inr () := if_pos h
      simp only [foldE, e]
      simp [hasL, h]
    · have e : loadG () x = .inl () := if_neg h
      simp only [foldE, e]
      rw [ih]
      simp [hasL, h]
theorem rLoadsT_loop (t : Te) (ih : ∀ x ∈ t.l, ∀ h nx, lim T 41 [.agg [.int .u8 (x).k, .int .i64 (x).w, .int .u64 (x).b, .str (x).s, .int .i64 (x).lo, .lst (x).e ((x).l.map tV)]] h nx = some (.bool (hasL (nodesT x)), h, nx)) (hl : t.l.length ≤ 1000000) : ∀ (k i : Nat), i + k = t.l.length → hasL (nodesL (t.l.take i)) = false →
    @Ok Out (runs T [.code b41_0, .inL (some 3) b41_0, .inB 0, .code k41_1] [(1, .ptr 0 1 0 0), (3, .int .i64 i)] [(0, .row 6 [.agg [.int .u8 (t).k, .int .i64 (t).w, .int .u64 (t).b, .str (t).s, .int .i64 (t).lo, .lst (t).e ((t).l.map tV)]])] 3) ⟨fun x => resV c41.res x = some (.bool (hasL (nodesT t)))⟩ := by
  intro k
  induction k with
  | zero =>
    intro i hi hn
    have : ¬ (i : Int) < t.l.length := by omega
    rw [List.take_of_length_le (by omega)] at hn
    simp (disch := first | omega | (simp only [EVL] <;> omega) | (simp only [hget_c, Nat.reduceEqDiff, ↓reduceIte]; done) | assumption | (simp (disch := omega) only [hg_ne, hg_eq, hgs_ne, *]; done) | (simp only [LAWSb]; done) | with_unfolding_all rfl) only [unf b41_0.eq_1, unf k41_1.eq_1, c41, this, LAWSb, EVS, Nat.reduceAdd, Nat.reduceSub, Int.reduceToNat, Nat.reduceMul, Nat.reduceEqDiff, Nat.reduceLeDiff, Int.reduceEq, Int.reduceLT, Int.reduceLE, ↓reduceIte]
    rw [nodes_eq]
    show _ = (decide (t.k = 24) || hasL (nodesL t.l))
    rw [hn, Bool.or_false]
  | succ k ihk =>
    intro i hi hn
    have : (i : Int) < t.l.length := by omega
    have hx := ih _ (getD_mem (d := default) (show i < t.l.length by omega))
    cases hs : hasL (nodesT (t.l.getD i default)) with
    | true =>
      rw [hs] at hx
      simp (disch := first | omega | (simp only [EVL] <;> omega) | (simp only [hget_c, Nat.reduceEqDiff, ↓reduceIte]; done) | assumption | (simp (disch := omega) only [hg_ne, hg_eq, hgs_ne, *]; done) | (simp only [LAWSb]; done) | with_unfolding_all rfl) only [unf b41_0.eq_1, c41, this, LAWSb, hx, EVS, Nat.reduceAdd, Nat.reduceSub, Int.reduceToNat, Nat.reduceMul, Nat.reduceEqDiff, Nat.reduceLeDiff, Int.reduceEq, Int.reduceLT, Int.reduceLE, ↓reduceIte]
      have : hasL (nodesT t) = true := by
        simp only [hasL, List.any_eq_true, decide_eq_true_eq] at hs ⊢
        obtain ⟨y, hy, hk⟩ := hs
        exact ⟨y, nodes_sub (getD_mem (by omega)) hy, hk⟩
      rw [this]
    | false =>
      rw [hs] at hx
      have hn' : hasL (nodesL (t.l.take (i + 1))) = false := by
        rw [take_succ (by omega)]
        have : ∀ l m : List Te, nodesL (l ++ m) = nodesL l ++ nodesL m := by
          intro l m
          induction l with
          | nil => rfl
          | cons x l ih => simp only [List.cons_append, nodesL_cons, ih, List.append_assoc]
        rw [this, hasL_app, hn, Bool.false_or]
        show hasL (nodesT _ ++ []) = false
        rw [List.append_nil]; exact hs
      simp (disch := first | omega | (simp only [EVL] <;> omega) | (simp only [hget_c, Nat.reduceEqDiff, ↓reduceIte]; done) | assumption | (simp (disch := omega) only [hg_ne, hg_eq, hgs_ne, *]; done) | (simp only [LAWSb]; done) | with_unfolding_all rfl) only [unf b41_0.eq_1, c41, this, LAWSb, hx, EVS, Nat.reduceAdd, Nat.reduceSub, Int.reduceToNat, Nat.reduceMul, Nat.reduceEqDiff, Nat.reduceLeDiff, Int.reduceEq, Int.reduceLT, Int.reduceLE, ↓reduceIte]
      exact Ok_inL (by decide) (by simp [lowTm, low, lows, LAWSb]) (by simp [cutH, lowHeap, lowObj, lows, low, LAWSb]) (ihk (i + 1) (by omega) hn')
theorem rLoadsT_spec (t : Te) (hl : size t ≤ 1000000) : ∀ h nx, lim T 41 [.agg [.int .u8 (t).k, .int .i64 (t).w, .int .u64 (t).b, .str (t).s, .int .i64 (t).lo, .lst (t).e ((t).l.map tV)]] h nx = some (.bool (hasL (nodesT t)), h, nx) := by
  induction t using Tm'.ind with
  | h t ih =>
  have hsz := sizes_len t.l
  have hse := size_eq t
  refine lim_iso tg41 rfl rfl (by simp [pures, pure_, pu_Ts]) ?_
  simp (disch := first | omega | (simp only [EVL] <;> omega) | (simp only [hget_c, Nat.reduceEqDiff, ↓reduceIte]; done) | assumption | (simp (disch := omega) only [hg_ne, hg_eq, hgs_ne, *]; done) | (simp only [LAWSb]; done) | with_unfolding_all rfl) only [c41, LAWSb, EVS, Nat.reduceAdd, Nat.reduceSub, Int.reduceToNat, Nat.reduceMul, Nat.reduceEqDiff, Nat.reduceLeDiff, Int.reduceEq, Int.reduceLT, Int.reduceLE, ↓reduceIte]
  exact rLoadsT_loop t (fun x hx => ih x hx (by have := size_mem hx; omega)) (by omega) t.l.length 0 (by omega) rfl
open Classical in
noncomputable def pureS (t : Te) : Bool := decide (checkS t = 0) && !hasL (nodesT t)
theorem rPure_spec (t : Te) (ht : TOk t) (hl : size t ≤ 1000000) : ∀ h nx, lim T 17 [.agg [.int .u8 (t).k, .int .i64 (t).w, .int .u64 (t).b, .str (t).s, .int .i64 (t).lo, .lst (t).e ((t).l.map tV)]] h nx = some (.bool (pureS t), h, nx) := by
  have hc := rCheck_spec t ht hl
  have hd := rLoadsT_spec t hl
  refine lim_iso tg17 rfl rfl (by simp [pures, pure_, pu_Ts]) ?_
  by_cases h : checkS t = 0
  · simp (disch := first | omega | (simp only [EVL] <;> omega) | (simp only [hget_c, Nat.reduceEqDiff, ↓reduceIte]; done) | assumption | (simp (disch := omega) only [hg_ne, hg_eq, hgs_ne, *]; done) | (simp only [LAWSb]; done) | with_unfolding_all rfl) only [c17, LAWSb, hc, hd, h, EVS, Nat.reduceAdd, Nat.reduceSub, Int.reduceToNat, Nat.reduceMul, Nat.reduceEqDiff, Nat.reduceLeDiff, Int.reduceEq, Int.reduceLT, Int.reduceLE, ↓reduceIte]
    simp [pureS, h]
  · simp (disch := first | omega | (simp only [EVL] <;> omega) | (simp only [hget_c, Nat.reduceEqDiff, ↓reduceIte]; done) | assumption | (simp (disch := omega) only [hg_ne, hg_eq, hgs_ne, *]; done) | (simp only [LAWSb]; done) | with_unfolding_all rfl) only [c17, LAWSb, hc, hd, h, EVS, Nat.reduceAdd, Nat.reduceSub, Int.reduceToNat, Nat.reduceMul, Nat.reduceEqDiff, Nat.reduceLeDiff, Int.reduceEq, Int.reduceLT, Int.reduceLE, ↓reduceIte]
    simp [pureS, h]
abbrev puP (t : Te) (_ : Unit) (h : Heap) : Prop := hget h 7 = some (.lp 0 0) ∧ hget h 1 = some (.row 1 [.bool false]) ∧ hget h 0 = some (.row 6 [.agg [.int .u8 (t).k, .int .i64 (t).w, .int .u64 (t).b, .str (t).s, .int .i64 (t).lo, .lst (t).e ((t).l.map tV)]])
abbrev puQ (_ : Unit) (h : Heap) : Prop := hget h 7 = some (.lp 2 1) ∧ hget h 1 = some (.row 1 [.bool false])
theorem pureP_spec (t : Te) (hl : size t ≤ 1000000) (hk : KOk t) : ∀ h nx, lim T 16 [.agg [.int .u8 (t).k, .int .i64 (t).w, .int .u64 (t).b, .str (t).s, .int .i64 (t).lo, .lst (t).e ((t).l.map tV)]] h nx = some (.bool (pureS t), h, nx) := by
  have hc := check_pure t hl hk
  refine lim_iso tg16 rfl rfl (by simp [pures, pure_, pu_Ts]) ?_
  by_cases h : checkS t = 0
  · simp (disch := first | omega | (simp only [EVL] <;> omega) | (simp only [hget_c, Nat.reduceEqDiff, ↓reduceIte]; done) | assumption | (simp (disch := omega) only [hg_ne, hg_eq, hgs_ne, *]; done) | (simp only [LAWSb]; done) | with_unfolding_all rfl) only [c16, nodes_spec, LAWSb, hc, h, EVS, Nat.reduceAdd, Nat.reduceSub, Int.reduceToNat, Nat.reduceMul, Nat.reduceEqDiff, Nat.reduceLeDiff, Int.reduceEq, Int.reduceLT, Int.reduceLE, ↓reduceIte]
    refine Ok_call1 (walk_spec 1001600 7 8 [.ptr 1 1 0 0] loadG (puP t) puQ (fun a h h' hp hk => ⟨(hk _ (by omega)).trans hp.1, (hk _ (by omega)).trans hp.2.1, (hk _ (by omega)).trans hp.2.2⟩) t hl ?_ () _ _ (by omega) ⟨rfl, rfl, rfl⟩) fun r hr => ?_
    · intro x hx u h nx hb hp
      obtain ⟨p1, p2, p3⟩ := hp
      rw [lim_round tg1001600 rfl rfl p1]
      show @Ok _ _ ⟨fun r => ResR _ _ _ _ _ r _⟩
      simp only [r1001600]
      by_cases hx : x.k = 24
      · have hg : loadG u x = .inr () := if_pos hx
        rw [hg]
        simp (disch := first | omega | (simp only [EVL] <;> omega) | (simp only [hget_c, Nat.reduceEqDiff, ↓reduceIte]; done) | assumption | (simp (disch := omega) only [hg_ne, hg_eq, hgs_ne, *]; done) | (simp only [LAWSb]; done) | with_unfolding_all rfl) only [unf a16_1.eq_1, unf b16_0.eq_1, p1, p2, p3, hgs_ne, hgs_eq p1, hx, EVS, Nat.reduceAdd, Nat.reduceSub, Int.reduceToNat, Nat.reduceMul, Nat.reduceEqDiff, Nat.reduceLeDiff, Int.reduceEq, Int.reduceLT, Int.reduceLE, ↓reduceIte]
        exact ⟨rfl, ⟨by (simp (disch := omega) only [hg_ne, hg_eq, hgs_ne, hgx_e, Option.map_some, *]), by (simp (disch := omega) only [hg_ne, hg_eq, hgs_ne, hgx_e, Option.map_some, *])⟩, ⟨by dsimp only; omega, fun i hi hl => by simp (disch := omega) only [hg_ne, hgs_ne]⟩⟩
      · have hg : loadG u x = .inl () := if_neg hx
        rw [hg]
        simp (disch := first | omega | (simp only [EVL] <;> omega) | (simp only [hget_c, Nat.reduceEqDiff, ↓reduceIte]; done) | assumption | (simp (disch := omega) only [hg_ne, hg_eq, hgs_ne, *]; done) | (simp only [LAWSb]; done) | with_unfolding_all rfl) only [unf a16_1.eq_1, unf b16_0.eq_1, p1, p2, p3, hgs_ne, hgs_eq p1, hx, EVS, Nat.reduceAdd, Nat.reduceSub, Int.reduceToNat, Nat.reduceMul, Nat.reduceEqDiff, Nat.reduceLeDiff, Int.reduceEq, Int.reduceLT, Int.reduceLE, ↓reduceIte]
        exact ⟨rfl, ⟨by (simp (disch := omega) only [hg_ne, hg_eq, hgs_ne, hgx_e, Option.map_some, *]), by (simp (disch := omega) only [hg_ne, hg_eq, hgs_ne, hgx_e, Option.map_some, *]), by (simp (disch := omega) only [hg_ne, hg_eq, hgs_ne, hgx_e, Option.map_some, *])⟩, ⟨by dsimp only; omega, fun i hi hl => by simp (disch := omega) only [hg_ne, hgs_ne]⟩⟩
    · obtain ⟨v, h', nx'⟩ := r
      rw [loadG_run] at hr
      cases hh : hasL (nodesT t) with
      | false =>
        rw [hh, if_neg (by decide)] at hr
        obtain ⟨rfl, ⟨p1, p2, p3⟩, hf⟩ := hr
        dsimp only at p1 p2 p3
        refine ⟨rfl, ?_⟩
        simp (disch := first | omega | (simp only [EVL] <;> omega) | (simp only [hget_c, Nat.reduceEqDiff, ↓reduceIte]; done) | assumption | (simp (disch := omega) only [hg_ne, hg_eq, hgs_ne, *]; done) | (simp only [LAWSb]; done) | with_unfolding_all rfl) only [unf k16_2.eq_1, c16, p1, p2, p3, hgs_ne, hgx_e, Option.map_some, EVS, Nat.reduceAdd, Nat.reduceSub, Int.reduceToNat, Nat.reduceMul, Nat.reduceEqDiff, Nat.reduceLeDiff, Int.reduceEq, Int.reduceLT, Int.reduceLE, ↓reduceIte]
        simp [pureS, h, hh]
      | true =>
        rw [hh, if_pos rfl] at hr
        obtain ⟨rfl, ⟨p1, p2⟩, hf⟩ := hr
        dsimp only at p1 p2
        refine ⟨rfl, ?_⟩
        simp (disch := first | omega | (simp only [EVL] <;> omega) | (simp only [hget_c, Nat.reduceEqDiff, ↓reduceIte]; done) | assumption | (simp (disch := omega) only [hg_ne, hg_eq, hgs_ne, *]; done) | (simp only [LAWSb]; done) | with_unfolding_all rfl) only [c16, p1, p2, hgs_ne, EVS, Nat.reduceAdd, Nat.reduceSub, Int.reduceToNat, Nat.reduceMul, Nat.reduceEqDiff, Nat.reduceLeDiff, Int.reduceEq, Int.reduceLT, Int.reduceLE, ↓reduceIte]
        simp [pureS, hh]
  · simp (disch := first | omega | (simp only [EVL] <;> omega) | (simp only [hget_c, Nat.reduceEqDiff, ↓reduceIte]; done) | assumption | (simp (disch := omega) only [hg_ne, hg_eq, hgs_ne, *]; done) | (simp only [LAWSb]; done) | with_unfolding_all rfl) only [c16, LAWSb, hc, h, EVS, Nat.reduceAdd, Nat.reduceSub, Int.reduceToNat, Nat.reduceMul, Nat.reduceEqDiff, Nat.reduceLeDiff, Int.reduceEq, Int.reduceLT, Int.reduceLE, ↓reduceIte]
    simp [pureS, h]

theorem lk_b0 (l : Env0) : lstOk 3 (l.map bd0) = true := lk_map (fun _ => rfl) l
theorem ge_b0 {l : Env0} {i : Nat} (h : i < l.length) : (l.map bd0)[i]? = some (.agg [.str (l.getD i ([], 0)).1, .int .i64 (l.getD i ([], 0)).2, .int .u64 0]) := by simp [List.getD, h, bd0]
theorem lk_n {es : Nat} : lstOk es [] = true := rfl
theorem LAWSv : type_of% (And.intro lk_b0 <| And.intro @ge_b0 <| And.intro @lk_n <| @List.length_map.{0,0}) := And.intro lk_b0 <| And.intro @ge_b0 <| And.intro @lk_n <| @List.length_map.{0,0}
theorem stepE_in {l : Env0} {p : List UInt8 × Int} {k : Nat} (hk : posE p.1 l = k) (h : k = l.length ∨ (l.getD k ([], 0)).1 ≠ p.1) : stepE l p = l.take k ++ [p] ++ l.drop k := by
  subst hk; exact if_pos h
theorem stepE_out {l : Env0} {p : List UInt8 × Int} {k : Nat} (hk : posE p.1 l = k) (h1 : k ≠ l.length) (h2 : (l.getD k ([], 0)).1 = p.1) : stepE l p = l := by
  subst hk; exact if_neg (by rintro (h | h); · exact h1 h
                             · exact h h2)
theorem insE_drop {out L : Env0} {i : Nat} (h : i < L.length) : insE out (L.drop i) = insE (stepE out (L.getD i ([], 0))) (L.drop (i + 1)) := by
  rw [List.drop_eq_getElem_cons h]
  simp [insE, List.getD, h]
def OutR (h : Heap) (nx : Nat) (v : FV) (O : Env0) : Prop := (∃ e, v = .lst e [] ∧ O = []) ∨ ∃ id, v = .sref 3 id O.length 0 O.length ∧ hget h id = some (.row 3 (O.map bd0)) ∧ id < nx
abbrev RQ (t : Te) : Post Out := ⟨fun x => @Ok FV (resV c13.res x) ⟨fun v => ∃ e, v = .tup [.lst e ((insE [] (varList t)).map bd0), .int .i64 0]⟩⟩
theorem rv_in (t : Te) (L : Env0) (hL : L = varList t) (hlen : L.length ≤ 1000) (i : Nat) (hi : i < L.length) (O : Env0) (hO : O.length ≤ 1000) (v : FV) :
    ∀ (k j : Nat) (h : Heap) (nx : Nat), j + k = O.length → OutR h nx v O → (∀ a, a < j → Op.bytesLess (O.getD a ([], 0)).1 (L.getD i ([], 0)).1 = true) →
    (∀ (h : Heap) (nx : Nat) (v : FV), OutR h nx v (stepE O (L.getD i ([], 0))) → @Ok Out (runs T [.code b13_3, .inL none b13_3, .inB 0, .code k13_4] [(4, v), (5, .lst false (L.map bd0)), (6, .int .i64 (i + 1 : Nat))] h nx) (RQ t)) →
    @Ok Out (runs T [.code b13_0, .inL none b13_0, .inB 2, .code k13_1, .inB 1, .code k13_2, .inL none b13_3, .inB 0, .code k13_4] [(4, v), (5, .lst false (L.map bd0)), (6, .int .i64 i), (7, .int .i64 j)] h nx) (RQ t) := by
  have hii : (i : Int) < L.length := by omega
  have ei : (i : Int) + 1 = ((i + 1 : Nat) : Int) := by omega
  intro k
  induction k with
  | zero =>
    intro j h nx hj hr hb next
    have hp : posE (L.getD i ([], 0)).1 O = j := posE_eq (by omega) (fun a ha => hb a ha) (fun hh => by omega)
    have hst := stepE_in hp (.inl (by omega))
    have hjO : j = O.length := by omega
    subst hjO
    rw [List.take_of_length_le (Nat.le_refl _), List.drop_of_length_le (Nat.le_refl _), List.append_nil] at hst
    rw [hst] at next
    rcases hr with ⟨e, rfl, rfl⟩ | ⟨id, rfl, h1, h2⟩
    · have d1 : decide (((0 : Nat) : Int) < ((0 : Nat) : Int)) = false := by decide
      simp (disch := first | omega | (simp only [EVL] <;> omega) | (simp only [hget_c, Nat.reduceEqDiff, ↓reduceIte]; done) | assumption | (simp (disch := omega) only [hg_ne, hg_eq, hgs_ne, *]; done) | (simp only [LAWSb, LAWSv]; done) | with_unfolding_all rfl) only [unf b13_0.eq_1, unf k13_1.eq_1, unf k13_2.eq_1, c13, LAWSb, LAWSv, eq_self, hii, ei, d1, ← List.map_drop, ← List.map_take, EVS, Nat.reduceAdd, Nat.reduceSub, Int.reduceToNat, Nat.reduceMul, Nat.reduceEqDiff, Nat.reduceLeDiff, Int.reduceEq, Int.reduceLT, Int.reduceLE, ↓reduceIte]
      exact Ok_inL0 (next _ _ _ (.inr ⟨nx + 17 + 17, by simp, by (simp (disch := omega) only [hg_ne, hg_eq, hgs_ne, hgx_e, Option.map_some, *]); simp [bd0], by omega⟩))
    · have d1 : decide ((O.length : Int) < O.length) = false := by simp
      simp (disch := first | omega | (simp only [EVL] <;> omega) | (simp only [hget_c, Nat.reduceEqDiff, ↓reduceIte]; done) | assumption | (simp (disch := omega) only [hg_ne, hg_eq, hgs_ne, *]; done) | (simp only [LAWSb, LAWSv]; done) | with_unfolding_all rfl) only [unf b13_0.eq_1, unf k13_1.eq_1, unf k13_2.eq_1, c13, LAWSb, LAWSv, eq_self, hii, ei, h1, d1, ← List.map_drop, ← List.map_take, EVS, Nat.reduceAdd, Nat.reduceSub, Int.reduceToNat, Nat.reduceMul, Nat.reduceEqDiff, Nat.reduceLeDiff, Int.reduceEq, Int.reduceLT, Int.reduceLE, ↓reduceIte]
      exact Ok_inL0 (next _ _ _ (.inr ⟨nx + 17 + 17, by simp, by (simp (disch := omega) only [hg_ne, hg_eq, hgs_ne, hgx_e, Option.map_some, *]); simp [bd0], by omega⟩))
  | succ k ih =>
    intro j h nx hj hr hb next
    rcases hr with ⟨e, rfl, rfl⟩ | ⟨id, rfl, h1, h2⟩
    · simp at hj
    · have hjl : (j : Int) < O.length := by omega
      have ej : (j : Int) + 1 = ((j + 1 : Nat) : Int) := by omega
      have hne : ¬ (j : Int) = O.length := by omega
      cases hless : Op.bytesLess (O.getD j ([], 0)).1 (L.getD i ([], 0)).1 with
      | true =>
        simp (disch := first | omega | (simp only [EVL] <;> omega) | (simp only [hget_c, Nat.reduceEqDiff, ↓reduceIte]; done) | assumption | (simp (disch := omega) only [hg_ne, hg_eq, hgs_ne, *]; done) | (simp only [LAWSb, LAWSv]; done) | with_unfolding_all rfl) only [unf b13_0.eq_1, c13, LAWSb, LAWSv, hii, hjl, ej, h1, hless, EVS, Nat.reduceAdd, Nat.reduceSub, Int.reduceToNat, Nat.reduceMul, Nat.reduceEqDiff, Nat.reduceLeDiff, Int.reduceEq, Int.reduceLT, Int.reduceLE, ↓reduceIte]
        refine Ok_inL0 (ih (j + 1) _ _ (by omega) (.inr ⟨id, rfl, h1, by omega⟩) (fun a ha => ?_) next)
        by_cases e : a = j
        · subst e; exact hless
        · exact hb a (by omega)
      | false =>
        have hp : posE (L.getD i ([], 0)).1 O = j := posE_eq (by omega) hb (fun _ => hless)
        by_cases heq : (O.getD j ([], 0)).1 = (L.getD i ([], 0)).1
        · rw [stepE_out hp (by omega) heq] at next
          have hbe : ((O.getD j ([], 0)).1 == (L.getD i ([], 0)).1) = true := by simpa using heq
          simp (disch := first | omega | (simp only [EVL] <;> omega) | (simp only [hget_c, Nat.reduceEqDiff, ↓reduceIte]; done) | assumption | (simp (disch := omega) only [hg_ne, hg_eq, hgs_ne, *]; done) | (simp only [LAWSb, LAWSv]; done) | with_unfolding_all rfl) only [unf b13_0.eq_1, unf k13_1.eq_1, unf k13_2.eq_1, c13, LAWSb, LAWSv, hii, hjl, hne, ei, h1, hless, hbe, EVS, Nat.reduceAdd, Nat.reduceSub, Int.reduceToNat, Nat.reduceMul, Nat.reduceEqDiff, Nat.reduceLeDiff, Int.reduceEq, Int.reduceLT, Int.reduceLE, ↓reduceIte]
          exact Ok_inL0 (next _ _ _ (.inr ⟨id, rfl, h1, by omega⟩))
        · have hst := stepE_in hp (.inr heq)
          rw [hst] at next
          have hbe : ((O.getD j ([], 0)).1 == (L.getD i ([], 0)).1) = false := by simpa using heq
          have hO2 : (O.take j).length = j := by rw [List.length_take]; omega
          simp (disch := first | omega | (simp only [EVL] <;> omega) | (simp only [hget_c, Nat.reduceEqDiff, ↓reduceIte]; done) | assumption | (simp (disch := omega) only [hg_ne, hg_eq, hgs_ne, *]; done) | (simp only [LAWSb, LAWSv]; done) | with_unfolding_all rfl) only [unf b13_0.eq_1, unf k13_1.eq_1, unf k13_2.eq_1, c13, LAWSb, LAWSv, eq_self, hii, hjl, hne, ei, h1, hless, hbe, ← List.map_drop, ← List.map_take, EVS, Nat.reduceAdd, Nat.reduceSub, Int.reduceToNat, Nat.reduceMul, Nat.reduceEqDiff, Nat.reduceLeDiff, Int.reduceEq, Int.reduceLT, Int.reduceLE, ↓reduceIte]
          refine Ok_inL0 (next _ _ _ (.inr ⟨nx + 17 + 17, ?_, ?_, by omega⟩))
          · simp [hO2]; omega
          · (simp (disch := omega) only [hg_ne, hg_eq, hgs_ne, hgx_e, Option.map_some, *]); simp [bd0]
theorem rv_out (t : Te) (L : Env0) (hL : L = varList t) (hlen : L.length ≤ 500) : ∀ (k i : Nat) (O : Env0) (v : FV) (h : Heap) (nx : Nat), i + k = L.length → O.length ≤ i → OutR h nx v O → insE O (L.drop i) = insE [] L →
    @Ok Out (runs T [.code b13_3, .inL none b13_3, .inB 0, .code k13_4] [(4, v), (5, .lst false (L.map bd0)), (6, .int .i64 i)] h nx) (RQ t) := by
  intro k
  induction k with
  | zero =>
    intro i O v h nx hi hO hr hI
    have d1 : decide ((i : Int) < L.length) = false := by simp; omega
    rw [List.drop_of_length_le (by omega)] at hI
    have hI : O = insE [] L := hI
    rcases hr with ⟨e, rfl, rfl⟩ | ⟨id, rfl, h1, h2⟩
    · simp (disch := first | omega | (simp only [EVL] <;> omega) | (simp only [hget_c, Nat.reduceEqDiff, ↓reduceIte]; done) | assumption | (simp (disch := omega) only [hg_ne, hg_eq, hgs_ne, *]; done) | (simp only [LAWSb, LAWSv]; done) | with_unfolding_all rfl) only [unf b13_3.eq_1, unf k13_4.eq_1, c13, LAWSb, LAWSv, d1, EVS, Nat.reduceAdd, Nat.reduceSub, Int.reduceToNat, Nat.reduceMul, Nat.reduceEqDiff, Nat.reduceLeDiff, Int.reduceEq, Int.reduceLT, Int.reduceLE, ↓reduceIte]
      rw [← hL, ← hI]
      exact ⟨e, rfl⟩
    · simp (disch := first | omega | (simp only [EVL] <;> omega) | (simp only [hget_c, Nat.reduceEqDiff, ↓reduceIte]; done) | assumption | (simp (disch := omega) only [hg_ne, hg_eq, hgs_ne, *]; done) | (simp only [LAWSb, LAWSv]; done) | with_unfolding_all rfl) only [unf b13_3.eq_1, unf k13_4.eq_1, c13, LAWSb, LAWSv, d1, h1, EVS, Nat.reduceAdd, Nat.reduceSub, Int.reduceToNat, Nat.reduceMul, Nat.reduceEqDiff, Nat.reduceLeDiff, Int.reduceEq, Int.reduceLT, Int.reduceLE, ↓reduceIte]
      rw [← hL, ← hI]
      exact ⟨_, rfl⟩
  | succ k ih =>
    intro i O v h nx hi hO hr hI
    have d1 : decide ((i : Int) < L.length) = true := by simp; omega
    rw [insE_drop (by omega)] at hI
    simp (disch := first | omega | (simp only [EVL] <;> omega) | (simp only [hget_c, Nat.reduceEqDiff, ↓reduceIte]; done) | assumption | (simp (disch := omega) only [hg_ne, hg_eq, hgs_ne, *]; done) | (simp only [LAWSb, LAWSv]; done) | with_unfolding_all rfl) only [unf b13_3.eq_1, c13, LAWSb, d1, EVS, Nat.reduceAdd, Nat.reduceSub, Int.reduceToNat, Nat.reduceMul, Nat.reduceEqDiff, Nat.reduceLeDiff, Int.reduceEq, Int.reduceLT, Int.reduceLE, ↓reduceIte]
    refine rv_in t L hL (by omega) i (by omega) O (by omega) v O.length 0 h _ (by omega) ?_ (fun a ha => by omega) (fun h' nx' v' hr' => ih (i + 1) _ v' h' nx' (by omega) (by have := stepE_len O (L.getD i ([], 0)); omega) hr' hI)
    rcases hr with hr | ⟨id, h1, h2, h3⟩
    · exact .inl hr
    · exact .inr ⟨id, h1, h2, by omega⟩
theorem check_size {t : Te} (h : checkS t = 0) : size t ≤ 400 := by
  unfold checkS at h
  split at h
  · cases h
  · omega
theorem rVars_spec (t : Te) (ht : TOk t) (hl : size t ≤ 1000000) : ∃ e, ∀ h nx, lim T 13 [.agg [.int .u8 (t).k, .int .i64 (t).w, .int .u64 (t).b, .str (t).s, .int .i64 (t).lo, .lst (t).e ((t).l.map tV)]] h nx = some (varsV e t, h, nx) := by
  have hc := rCheck_spec t ht hl
  have hli := rList_spec t hl
  obtain ⟨v, ⟨e, rfl⟩, hh⟩ := lim_isoP (p := fun v => ∃ e, v = varsV e t) tg13 rfl (args := [.agg [.int .u8 (t).k, .int .i64 (t).w, .int .u64 (t).b, .str (t).s, .int .i64 (t).lo, .lst (t).e ((t).l.map tV)]]) rfl (by simp [pures, pure_, pu_Ts]) (by
    by_cases h0 : checkS t = 0
    · have hs := check_size h0
      have hvl : (varList t).length ≤ size t := by have := varL_len (nodesT t); rw [nodesT_len] at this; exact this
      simp (disch := first | omega | (simp only [EVL] <;> omega) | (simp only [hget_c, Nat.reduceEqDiff, ↓reduceIte]; done) | assumption | (simp (disch := omega) only [hg_ne, hg_eq, hgs_ne, *]; done) | (simp only [LAWSb, LAWSv]; done) | with_unfolding_all rfl) only [c13, LAWSb, hc, hli, h0, EVS, Nat.reduceAdd, Nat.reduceSub, Int.reduceToNat, Nat.reduceMul, Nat.reduceEqDiff, Nat.reduceLeDiff, Int.reduceEq, Int.reduceLT, Int.reduceLE, ↓reduceIte]
      refine Ok_post (rv_out t (varList t) rfl (by omega) (varList t).length 0 [] _ _ _ (by omega) (by simp) (.inl ⟨true, rfl, rfl⟩) rfl) fun _ v hv => ?_
      obtain ⟨e, rfl⟩ := hv
      exact ⟨e, (if_pos h0).symm⟩
    · simp (disch := first | omega | (simp only [EVL] <;> omega) | (simp only [hget_c, Nat.reduceEqDiff, ↓reduceIte]; done) | assumption | (simp (disch := omega) only [hg_ne, hg_eq, hgs_ne, *]; done) | (simp only [LAWSb, LAWSv]; done) | with_unfolding_all rfl) only [c13, LAWSb, hc, h0, EVS, Nat.reduceAdd, Nat.reduceSub, Int.reduceToNat, Nat.reduceMul, Nat.reduceEqDiff, Nat.reduceLeDiff, Int.reduceEq, Int.reduceLT, Int.reduceLE, ↓reduceIte]
      exact ⟨true, (if_neg h0).symm⟩)
  exact ⟨e, hh⟩
theorem sameB_loop (e d : Bool) (L : Env0) (hl : L.length ≤ 1000) : ∀ (k i : Nat), i + k = L.length →
    @Ok Out (runs T [.code b23_0, .inL (some 7) b23_0, .inB 0, .code k23_1] [(0, .lst e (L.map bd0)), (1, .lst d (L.map bd0)), (5, .int .i64 i)] [] 7) ⟨fun x => resV c23.res x = some (.bool true)⟩ := by
  intro k
  induction k with
  | zero =>
    intro i hi
    have : ¬ (i : Int) < L.length := by omega
    simp (disch := first | omega | (simp only [EVL] <;> omega) | (simp only [hget_c, Nat.reduceEqDiff, ↓reduceIte]; done) | assumption | (simp (disch := omega) only [hg_ne, hg_eq, hgs_ne, *]; done) | (simp only [LAWSb, LAWSv]; done) | with_unfolding_all rfl) only [unf b23_0.eq_1, unf k23_1.eq_1, c23, this, LAWSb, EVS, Nat.reduceAdd, Nat.reduceSub, Int.reduceToNat, Nat.reduceMul, Nat.reduceEqDiff, Nat.reduceLeDiff, Int.reduceEq, Int.reduceLT, Int.reduceLE, ↓reduceIte]
  | succ k ih =>
    intro i hi
    have : (i : Int) < L.length := by omega
    simp (disch := first | omega | (simp only [EVL] <;> omega) | (simp only [hget_c, Nat.reduceEqDiff, ↓reduceIte]; done) | assumption | (simp (disch := omega) only [hg_ne, hg_eq, hgs_ne, *]; done) | (simp only [LAWSb, LAWSv]; done) | with_unfolding_all rfl) only [unf b23_0.eq_1, c23, this, LAWSb, EVS, Nat.reduceAdd, Nat.reduceSub, Int.reduceToNat, Nat.reduceMul, Nat.reduceEqDiff, Nat.reduceLeDiff, Int.reduceEq, Int.reduceLT, Int.reduceLE, ↓reduceIte]
    exact Ok_inL (by decide) (by simp [lowTm, low, lows, LAWSb, LAWSv]) (by simp [cutH, lowHeap, lowObj, lows, low, LAWSb, LAWSv]) (ih (i + 1) (by omega))
theorem sameB_spec (e d : Bool) (L : Env0) (hl : L.length ≤ 1000) : ∀ h nx, lim T 23 [.lst e (L.map bd0), .lst d (L.map bd0)] h nx = some (.bool true, h, nx) := by
  refine lim_iso tg23 rfl rfl (by simp [pures, pure_, pu_b0]) ?_
  simp (disch := first | omega | (simp only [EVL] <;> omega) | (simp only [hget_c, Nat.reduceEqDiff, ↓reduceIte]; done) | assumption | (simp (disch := omega) only [hg_ne, hg_eq, hgs_ne, *]; done) | (simp only [LAWSb, LAWSv]; done) | with_unfolding_all rfl) only [c23, LAWSb, EVS, Nat.reduceAdd, Nat.reduceSub, Int.reduceToNat, Nat.reduceMul, Nat.reduceEqDiff, Nat.reduceLeDiff, Int.reduceEq, Int.reduceLT, Int.reduceLE, ↓reduceIte]
  exact sameB_loop e d L hl L.length 0 (by omega)

def Cel6 (x : FV) : Prop := ∃ a0 a1 a2 a3 a4 a5, x = .agg [a0, a1, a2, a3, a4, a5]
def J4 (H h : Heap) (lo : Nat) : Prop := ∀ q, q < lo → hget h q = hget H q
theorem tw_loop (H : Heap) (p lo id m : Nat) (z0 z1 z2 z3 z4 : FV) (hp : p < lo) (hP : hget H p = some (.row 6 [.agg [z0, z1, z2, z3, z4, .sref 6 id m 0 m]])) (hid : lo ≤ id) (hm : m ≤ 1000000) (o : Nat) (Q : Post Out)
    (next : ∀ h nx, J4 H h lo → @Ok Out (runs T [.code k4_1] [(2, .ptr 0 1 0 0), (5, .ptr o 1 0 0), (6, .ptr p 1 0 0), (11, .bool true), (12, .int .i64 m), (88, .bool false)] h nx) Q) :
    ∀ (k i : Nat) (h : Heap) (nx : Nat), i + k = m → J4 H h lo → (∃ xs, hget h id = some (.row 6 xs) ∧ xs.length = m ∧ ∀ x ∈ xs, Cel6 x) →
    @Ok Out (runs T [.code b4_0, .inL none b4_0, .inB 0, .code k4_1] [(2, .ptr 0 1 0 0), (5, .ptr o 1 0 0), (6, .ptr p 1 0 0), (11, .bool true), (12, .int .i64 i)] h nx) Q := by
  intro k
  induction k with
  | zero =>
    intro i h nx hi' hJ hL
    have hP' := (hJ p hp).trans hP
    have : ¬ (i : Int) < m := by omega
    have him : i = m := by omega
    simp (disch := first | omega | (simp only [EVL] <;> omega) | (simp only [hget_c, Nat.reduceEqDiff, ↓reduceIte]; done) | assumption | (simp (disch := omega) only [hg_ne, hg_eq, hgs_ne, *]; done) | (simp only [LAWSb]; done) | with_unfolding_all rfl) only [unf b4_0.eq_1, c4, this, LAWSb, hP', EVS, Nat.reduceAdd, Nat.reduceSub, Int.reduceToNat, Nat.reduceMul, Nat.reduceEqDiff, Nat.reduceLeDiff, Int.reduceEq, Int.reduceLT, Int.reduceLE, ↓reduceIte]
    subst him
    exact next h _ hJ
  | succ k ih =>
    intro i h nx hi' hJ hL
    have hP' := (hJ p hp).trans hP
    have : (i : Int) < m := by omega
    obtain ⟨xs, h4, h5, h7⟩ := hL
    obtain ⟨a0, a1, a2, a3, a4, c', hx⟩ := h7 _ (List.getElem_mem (show i < xs.length by omega))
    have hxi : xs[i]? = some (.agg [a0, a1, a2, a3, a4, c']) := by rw [List.getElem?_eq_getElem (show i < xs.length by omega), hx]
    simp (disch := first | omega | (simp only [EVL] <;> omega) | (simp only [hget_c, Nat.reduceEqDiff, ↓reduceIte]; done) | assumption | (simp (disch := omega) only [hg_ne, hg_eq, hgs_ne, *]; done) | (simp only [LAWSb]; done) | with_unfolding_all rfl) only [unf b4_0.eq_1, c4, this, LAWSb, hP', h4, h5, hxi, EVS, Nat.reduceAdd, Nat.reduceSub, Int.reduceToNat, Nat.reduceMul, Nat.reduceEqDiff, Nat.reduceLeDiff, Int.reduceEq, Int.reduceLT, Int.reduceLE, ↓reduceIte]
    refine Ok_inL0 (ih (i + 1) _ _ (by omega) (fun q hq => by rw [hgs_ne (by omega)]; exact hJ q hq) ⟨_, hgs_eq h4, by rw [List.length_set]; exact h5, fun x hx' => ?_⟩)
    rcases (List.mem_or_eq_of_mem_set hx').symm with rfl | hx'
    · exact ⟨_, _, _, _, _, _, rfl⟩
    · exact h7 x hx'
theorem same_comm_er {A B : Te} (h : er A = er B) : er B = er A := h.symm
set_option maxHeartbeats 1000000 in
theorem law_TC (a b : Te) (ta : TOk a) (tb : TOk b) : ∀ h nx, lim T 4 [.agg [.int .u8 (a).k, .int .i64 (a).w, .int .u64 (a).b, .str (a).s, .int .i64 (a).lo, .lst (a).e ((a).l.map tV)], .agg [.int .u8 (b).k, .int .i64 (b).w, .int .u64 (b).b, .str (b).s, .int .i64 (b).lo, .lst (b).e ((b).l.map tV)]] h nx = some (.bool true, h, nx) := by
  refine lim_iso tg4 rfl rfl (by simp [pures, pure_, pu_Ts]) ?_
  obtain ⟨b1, g1, c1⟩ := great_spec a ta
  obtain ⟨b2, g2, c2⟩ := great_spec b tb
  cases b1 with
  | true => simp (disch := first | omega | (simp only [EVL] <;> omega) | (simp only [hget_c, Nat.reduceEqDiff, ↓reduceIte]; done) | assumption | (simp (disch := omega) only [hg_ne, hg_eq, hgs_ne, *]; done) | (simp only [LAWSb]; done) | with_unfolding_all rfl) only [c4, LAWSb, c1, EVS, Nat.reduceAdd, Nat.reduceSub, Int.reduceToNat, Nat.reduceMul, Nat.reduceEqDiff, Nat.reduceLeDiff, Int.reduceEq, Int.reduceLT, Int.reduceLE, ↓reduceIte]
  | false =>
    cases b2 with
    | true => simp (disch := first | omega | (simp only [EVL] <;> omega) | (simp only [hget_c, Nat.reduceEqDiff, ↓reduceIte]; done) | assumption | (simp (disch := omega) only [hg_ne, hg_eq, hgs_ne, *]; done) | (simp only [LAWSb]; done) | with_unfolding_all rfl) only [c4, LAWSb, c1, c2, EVS, Nat.reduceAdd, Nat.reduceSub, Int.reduceToNat, Nat.reduceMul, Nat.reduceEqDiff, Nat.reduceLeDiff, Int.reduceEq, Int.reduceLT, Int.reduceLE, ↓reduceIte]
    | false =>
      obtain ⟨sa, da, _⟩ := g1 rfl
      obtain ⟨sb, db, _⟩ := g2 rfl
      have ka : KOk a := fun x hx => (ta x hx).1.1
      have p1 := vars_spec a (by omega) ka
      obtain ⟨e2, p2⟩ := rVars_spec a ta (by omega)
      have p3 := check_pure a (by omega) ka
      have p4 := rCheck_spec a ta (by omega)
      have p5 := pureP_spec a (by omega) ka
      have p6 := rPure_spec a ta (by omega)
      have p7 := size_spec a (by omega)
      have p8 := rSize_spec a (by omega)
      have p9 := depth_spec a (by omega)
      have p10 := rDepth_spec a (by omega)
      have p11 := sameP_spec a b (by omega) (by omega)
      have p12 := same_pure a b (by omega) (by omega)
      have hvw : ∃ (V : Env0) (er0 : Int) (e3 e4 : Bool), V.length ≤ 1000 ∧ varsV false a = .tup [.lst e3 (V.map bd0), .int .i64 er0] ∧ varsV e2 a = .tup [.lst e4 (V.map bd0), .int .i64 er0] := by
        by_cases h0 : checkS a = 0
        · refine ⟨insE [] (varList a), 0, false, e2, ?_, if_pos h0, if_pos h0⟩
          have h2 : ∀ (L out : Env0), (insE out L).length ≤ out.length + L.length := by
            intro L
            induction L with
            | nil => intro out; exact Nat.le_refl _
            | cons p L ih => intro out; have := ih (stepE out p); have := stepE_len out p; simp only [insE, List.length_cons]; omega
          have h3 := h2 (varList a) []
          have h4 : (varList a).length ≤ size a := by have := varL_len (nodesT a); rw [nodesT_len] at this; exact this
          simp only [List.length_nil] at h3
          omega
        · exact ⟨[], checkS a, true, true, by simp, if_neg h0, if_neg h0⟩
      obtain ⟨V, er0, e3, e4, hV, v1, v2⟩ := hvw
      rw [v1] at p1
      rw [v2] at p2
      have p13 := sameB_spec e3 e4 V hV
      generalize checkS a = ck at *
      generalize pureS a = pu at *
      generalize sameT a b = sm at *
      simp (disch := first | omega | (simp only [EVL] <;> omega) | (simp only [hget_c, Nat.reduceEqDiff, ↓reduceIte]; done) | assumption | (simp (disch := omega) only [hg_ne, hg_eq, hgs_ne, *]; done) | (simp only [LAWSb]; done) | with_unfolding_all rfl) only [c4, LAWSb, c1, c2, Nat.add_assoc, EVS, Nat.reduceAdd, Nat.reduceSub, Int.reduceToNat, Nat.reduceMul, Nat.reduceEqDiff, Nat.reduceLeDiff, Int.reduceEq, Int.reduceLT, Int.reduceLE, ↓reduceIte]
      refine Ok_call (rTwin_spec a (by omega) _ _) fun r hr => ?_
      obtain ⟨w1, h1, n1⟩ := r
      obtain ⟨hv1, x1, y1⟩ := hr
      dsimp only at hv1 x1 y1
      obtain ⟨k1, rfl, hk1⟩ := RpT_iff.1 hv1
      have cok1 : k1.one = true ∧ k1.cells.length = 1 := by
        rcases hk1 with ⟨e, rfl, _⟩ | ⟨id, xs, rfl, _⟩ <;> exact ⟨rfl, rfl⟩
      refine ⟨rfl, ?_⟩
      have a0 := (y1 0 (by omega)).trans (by simp (disch := omega) only [hg_ne, hg_eq] : _ = some (Obj.row 6 [.agg [.int .u8 (a).k, .int .i64 (a).w, .int .u64 (a).b, .str (a).s, .int .i64 (a).lo, .lst (a).e ((a).l.map tV)]]))
      have a1 := (y1 1 (by omega)).trans (by simp (disch := omega) only [hg_ne, hg_eq] : _ = some (Obj.row 6 [.agg [.int .u8 (b).k, .int .i64 (b).w, .int .u64 (b).b, .str (b).s, .int .i64 (b).lo, .lst (b).e ((b).l.map tV)]]))
      have a2 := (y1 11 (by omega)).trans (by simp (disch := omega) only [hg_ne, hg_eq] : _ = some (Obj.row 6 [.agg [.int .u8 0, .int .i64 0, .int .u64 0, .str [], .int .i64 0, .lst true []]]))
      have a3 := (y1 12 (by omega)).trans (by simp (disch := omega) only [hg_ne, hg_eq] : _ = some (Obj.row 6 [.agg [.int .u8 0, .int .i64 0, .int .u64 0, .str [], .int .i64 0, .lst true []]]))
      simp (disch := first | omega | (simp only [EVL] <;> omega) | (simp only [hget_c, Nat.reduceEqDiff, ↓reduceIte]; done) | assumption | (simp (disch := omega) only [hg_ne, hg_eq, hgs_ne, *]; done) | (simp only [LAWSb]; done) | with_unfolding_all rfl) only [c4, LAWSb, a0, Nat.add_assoc, EVS, Nat.reduceAdd, Nat.reduceSub, Int.reduceToNat, Nat.reduceMul, Nat.reduceEqDiff, Nat.reduceLeDiff, Int.reduceEq, Int.reduceLT, Int.reduceLE, ↓reduceIte]
      refine Ok_call (twin_spec a (by omega) _ _) fun r hr => ?_
      obtain ⟨w2, h2, n2⟩ := r
      obtain ⟨hv2, x2, y2⟩ := hr
      dsimp only at hv2 x2 y2
      obtain ⟨k2, rfl, hk2⟩ := RpT_iff.1 hv2
      have cok2 : k2.one = true ∧ k2.cells.length = 1 := by
        rcases hk2 with ⟨e, rfl, _⟩ | ⟨id, xs, rfl, _⟩ <;> exact ⟨rfl, rfl⟩
      have b0 := (y2 0 (by omega)).trans a0
      have b1 := (y2 1 (by omega)).trans a1
      have b2 := (y2 11 (by omega)).trans a2
      have b3 := (y2 12 (by omega)).trans a3
      refine ⟨rfl, ?_⟩
      simp (disch := first | omega | (simp only [EVL] <;> omega) | (simp only [hget_c, Nat.reduceEqDiff, ↓reduceIte]; done) | assumption | (simp (disch := omega) only [hg_ne, hg_eq, hgs_ne, *]; done) | (simp only [LAWSb]; done) | with_unfolding_all rfl) only [c4, LAWSb, b0, b1, b2, b3, cok1.1, cok2.1, hgs_ne, hgx_e, Option.map_some, p1, p2, Nat.add_assoc, EVS, Nat.reduceAdd, Nat.reduceSub, Int.reduceToNat, Nat.reduceMul, Nat.reduceEqDiff, Nat.reduceLeDiff, Int.reduceEq, Int.reduceLT, Int.reduceLE, ↓reduceIte]
      simp (disch := first | omega | (simp only [EVL] <;> omega) | (simp only [hget_c, Nat.reduceEqDiff, ↓reduceIte]; done) | assumption | (simp (disch := omega) only [hg_ne, hg_eq, hgs_ne, *]; done) | (simp only [LAWSb]; done) | with_unfolding_all rfl) only [c4, LAWSb, b0, b1, b2, b3, hgs_ne, hgx_e, Option.map_some, p3, p4, p5, p6, p7, p8, p9, p10, p11, p12, p13, eq_self, decide_true, beq_self_eq_true, Nat.add_assoc, EVS, Nat.reduceAdd, Nat.reduceSub, Int.reduceToNat, Nat.reduceMul, Nat.reduceEqDiff, Nat.reduceLeDiff, Int.reduceEq, Int.reduceLT, Int.reduceLE, ↓reduceIte]
      have hh0 : ∀ i, i ≠ 11 → i ≠ 12 → hget (hset (hset h2 11 (Obj.row 6 [.agg [.int .u8 a.k, .int .i64 a.w, .int .u64 a.b, .str a.s, .int .i64 a.lo, k1]])) 12 (Obj.row 6 [.agg [.int .u8 a.k, .int .i64 a.w, .int .u64 a.b, .str a.s, .int .i64 a.lo, k2]])) i = hget h2 i := fun i i1 i2 => by rw [hgs_ne (Ne.symm i2), hgs_ne (Ne.symm i1)]
      have hf11 : hget (hset (hset h2 11 (Obj.row 6 [.agg [.int .u8 a.k, .int .i64 a.w, .int .u64 a.b, .str a.s, .int .i64 a.lo, k1]])) 12 (Obj.row 6 [.agg [.int .u8 a.k, .int .i64 a.w, .int .u64 a.b, .str a.s, .int .i64 a.lo, k2]])) 11 = some (Obj.row 6 [.agg [.int .u8 a.k, .int .i64 a.w, .int .u64 a.b, .str a.s, .int .i64 a.lo, k1]]) := by rw [hgs_ne (by omega)]; exact hgs_eq b2
      have hf12 : hget (hset (hset h2 11 (Obj.row 6 [.agg [.int .u8 a.k, .int .i64 a.w, .int .u64 a.b, .str a.s, .int .i64 a.lo, k1]])) 12 (Obj.row 6 [.agg [.int .u8 a.k, .int .i64 a.w, .int .u64 a.b, .str a.s, .int .i64 a.lo, k2]])) 12 = some (Obj.row 6 [.agg [.int .u8 a.k, .int .i64 a.w, .int .u64 a.b, .str a.s, .int .i64 a.lo, k2]]) := hgs_eq (by rw [hgs_ne (by omega)]; exact b3)
      generalize hset (hset h2 11 (Obj.row 6 [.agg [.int .u8 a.k, .int .i64 a.w, .int .u64 a.b, .str a.s, .int .i64 a.lo, k1]])) 12 (Obj.row 6 [.agg [.int .u8 a.k, .int .i64 a.w, .int .u64 a.b, .str a.s, .int .i64 a.lo, k2]]) = h3 at *
      have f0 := (hh0 0 (by omega) (by omega)).trans b0
      have m1 : RpS h3 17 n1 k1 a.l := hk1.mono (by omega) (by omega) (fun i hi1 hi2 => by rw [hh0 i (by omega) (by omega), y2 i (by omega)])
      have m2 : RpS h3 n1 n2 k2 a.l := hk2.mono (by omega) (by omega) (fun i hi1 hi2 => by rw [hh0 i (by omega) (by omega)])
      have st1 := size_eq a
      have sll := sizes_len a.l
      simp (disch := first | omega | (simp only [EVL] <;> omega) | (simp only [hget_c, Nat.reduceEqDiff, ↓reduceIte]; done) | assumption | (simp (disch := omega) only [hg_ne, hg_eq, hgs_ne, *]; done) | (simp only [LAWSb]; done) | with_unfolding_all rfl) only [c4, LAWSb, same_lim, Nat.add_assoc, EVS, Nat.reduceAdd, Nat.reduceSub, Int.reduceToNat, Nat.reduceMul, Nat.reduceEqDiff, Nat.reduceLeDiff, Int.reduceEq, Int.reduceLT, Int.reduceLE, ↓reduceIte]
      simp only [B_B]
      refine Ok_ex (m2.frz (by omega)) fun v hq => ?_
      obtain ⟨e4, l4, hl4, rfl⟩ := hq
      have her4 : er (.mk a.k a.w a.b a.s a.lo e4 l4) = er a := by rw [er_eq a, er_eq, ← hl4]; rfl
      have c6 : ∀ h nx, isfR T c10 [.agg [.int .u8 a.k, .int .i64 a.w, .int .u64 a.b, .str a.s, .int .i64 a.lo, .lst e4 (l4.map tV)], .agg [.int .u8 (a).k, .int .i64 (a).w, .int .u64 (a).b, .str (a).s, .int .i64 (a).lo, .lst (a).e ((a).l.map tV)]] h nx = some (.bool true, h, nx) := by
        have := same_spec (.mk a.k a.w a.b a.s a.lo e4 l4) a (by rw [← size_er, her4, size_er]; omega) (by omega)
        rw [same_er _ _ her4] at this
        exact this
      simp (disch := first | omega | (simp only [EVL] <;> omega) | (simp only [hget_c, Nat.reduceEqDiff, ↓reduceIte]; done) | assumption | (simp (disch := omega) only [hg_ne, hg_eq, hgs_ne, *]; done) | (simp only [LAWSb]; done) | with_unfolding_all rfl) only [c4, LAWSb, f0, c6, p13, eq_self, decide_true, EVS, Nat.reduceAdd, Nat.reduceSub, Int.reduceToNat, Nat.reduceMul, Nat.reduceEqDiff, Nat.reduceLeDiff, Int.reduceEq, Int.reduceLT, Int.reduceLE, ↓reduceIte]
      have fin : ∀ (h : Heap) (nx : Nat) (m : Int), J4 h3 h n1 →
          @Ok Out (runs T [.code k4_1] [(2, .ptr 0 1 0 0), (5, .ptr 11 1 0 0), (6, .ptr 12 1 0 0), (11, .bool true), (12, .int .i64 m), (88, .bool false)] h nx) ⟨fun x => resV c4.res x = some (.bool true)⟩ := by
        intro h nx m hJ
        have q0 := (hJ 0 (by omega)).trans f0
        have q11 := (hJ 11 (by omega)).trans hf11
        have m3 : RpS h 17 n1 k1 a.l := m1.mono (by omega) (by omega) (fun i hi1 hi2 => hJ i (by omega))
        simp (disch := first | omega | (simp only [EVL] <;> omega) | (simp only [hget_c, Nat.reduceEqDiff, ↓reduceIte]; done) | assumption | (simp (disch := omega) only [hg_ne, hg_eq, hgs_ne, *]; done) | (simp only [LAWSb]; done) | with_unfolding_all rfl) only [unf k4_1.eq_1, c4, LAWSb, q0, q11, same_lim, EVS, Nat.reduceAdd, Nat.reduceSub, Int.reduceToNat, Nat.reduceMul, Nat.reduceEqDiff, Nat.reduceLeDiff, Int.reduceEq, Int.reduceLT, Int.reduceLE, ↓reduceIte]
        simp only [B_B]
        refine Ok_ex (m3.frz (by omega)) fun v hq => ?_
        obtain ⟨e5, l5, hl5, rfl⟩ := hq
        have her5 : er (.mk a.k a.w a.b a.s a.lo e5 l5) = er a := by rw [er_eq a, er_eq, ← hl5]; rfl
        have c7 : ∀ h nx, isfR T c10 [.agg [.int .u8 a.k, .int .i64 a.w, .int .u64 a.b, .str a.s, .int .i64 a.lo, .lst e5 (l5.map tV)], .agg [.int .u8 (a).k, .int .i64 (a).w, .int .u64 (a).b, .str (a).s, .int .i64 (a).lo, .lst (a).e ((a).l.map tV)]] h nx = some (.bool true, h, nx) := by
          have := same_spec (.mk a.k a.w a.b a.s a.lo e5 l5) a (by rw [← size_er, her5, size_er]; omega) (by omega)
          rw [same_er _ _ her5] at this
          exact this
        simp (disch := first | omega | (simp only [EVL] <;> omega) | (simp only [hget_c, Nat.reduceEqDiff, ↓reduceIte]; done) | assumption | (simp (disch := omega) only [hg_ne, hg_eq, hgs_ne, *]; done) | (simp only [LAWSb]; done) | with_unfolding_all rfl) only [c4, LAWSb, c7, EVS, Nat.reduceAdd, Nat.reduceSub, Int.reduceToNat, Nat.reduceMul, Nat.reduceEqDiff, Nat.reduceLeDiff, Int.reduceEq, Int.reduceLT, Int.reduceLE, ↓reduceIte]
      rcases m2 with ⟨e, rfl, _⟩ | ⟨id, xs, rfl, i1, i2, i3, i4⟩
      · have hz : decide ((0 : Int) < ((0 : Nat) : Int)) = false := rfl
        simp (disch := first | omega | (simp only [EVL] <;> omega) | (simp only [hget_c, Nat.reduceEqDiff, ↓reduceIte]; done) | assumption | (simp (disch := omega) only [hg_ne, hg_eq, hgs_ne, *]; done) | (simp only [LAWSb]; done) | with_unfolding_all rfl) only [unf b4_0.eq_1, c4, LAWSb, hf12, hz, EVS, Nat.reduceAdd, Nat.reduceSub, Int.reduceToNat, Nat.reduceMul, Nat.reduceEqDiff, Nat.reduceLeDiff, Int.reduceEq, Int.reduceLT, Int.reduceLE, ↓reduceIte]
        exact fin _ _ 0 (fun i hi => rfl)
      · refine tw_loop h3 12 n1 id a.l.length _ _ _ _ _ (by omega) hf12 i1 (by omega) 11 _ (fun h nx hJ => fin h nx _ hJ) a.l.length 0 _ _ (by omega) (fun i hi => rfl) ⟨xs, i3, i4.length, fun x hx => ?_⟩
        obtain ⟨j, hj, rfl⟩ := List.mem_iff_getElem.1 hx
        obtain ⟨a0, a1, a2, a3, a4, a5, e⟩ := RpL.get i4 j (by rw [← i4.length]; exact hj)
        rw [List.getElem?_eq_getElem hj] at e
        exact ⟨_, _, _, _, _, _, Option.some.inj e⟩
end Go.Proofs.YtkobnfjeehnhlaaDoor.Fi
