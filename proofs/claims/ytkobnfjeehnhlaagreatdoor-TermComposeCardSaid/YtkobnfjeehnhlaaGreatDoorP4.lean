/- Parts of the proof, after each other. -/
import Derived.Test.YtkobnfjeehnhlaaGreatDoorP1
import Derived.Test.YtkobnfjeehnhlaaGreatDoorFIEnv
import Derived.Test.YtkobnfjeehnhlaaGreatDoorFIOps
set_option linter.all false
namespace Go.Proofs.YtkobnfjeehnhlaaGreatDoor.Fi
open Go.FI

theorem count_loop (t : Te) (limit dp : Nat) (hl : limit ≤ 500) (hdp : dp ≤ 80) (hd1 : 1 ≤ dp) (hlen : t.l.length ≤ 9223372036854775807)
  (ih : ∀ x ∈ t.l, ∀ (limit dp : Nat), limit ≤ 500 → dp ≤ 80 → ∃ (n : Nat) (is : Bool), 1 ≤ n ∧ n ≤ limit + 1 ∧ (is = true → n ≤ limit → n = size x ∧ depth x ≤ dp) ∧ ∀ h nx, lim T 39 [.agg [.int .u8 (x).k, .int .i64 (x).w, .int .u64 (x).b, .str (x).s, .int .i64 (x).lo, .lst (x).e ((x).l.map tV)], .int .i64 limit, .int .i64 dp] h nx = some (.tup [.int .i64 n, .bool is], h, nx)) :
  ∀ (k i n : Nat), i + k = t.l.length → 1 ≤ n → n ≤ limit + 1 →
  @Ok Out (runs T [.code b39_0, .inL (some 7) b39_0, .inB 0, .code k39_1] [(1, .int .i64 limit), (2, .int .i64 dp), (3, .ptr 0 1 0 0), (8, .int .i64 n), (9, .int .i64 i)] [(0, .row 6 [.agg [.int .u8 (t).k, .int .i64 (t).w, .int .u64 (t).b, .str (t).s, .int .i64 (t).lo, .lst (t).e ((t).l.map tV)]])] 7)
   ⟨fun x => @Ok FV (resV c39.res x) ⟨fun v => ∃ (m : Nat) (is : Bool), v = .tup [.int .i64 m, .bool is] ∧ 1 ≤ m ∧ m ≤ limit + 1 ∧ (is = true → m ≤ limit → m = n + sizes (t.l.drop i) ∧ depths (t.l.drop i) + 1 ≤ dp)⟩⟩ := by
 intro k
 induction k with
 |zero =>
  intro i n hi h1 h2
  have : ¬ (i : Int) < t.l.length := by omega
  simp (disch := first | omega | (simp only [EVL] <;> omega) | (simp only [hget_c, Nat.reduceEqDiff, ↓reduceIte]; done) | assumption | (simp (disch := omega) only [hg_ne, hg_eq, hgs_ne, *]; done) | (simp only [TL]; done) | with_unfolding_all rfl) only [unf b39_0.eq_1, unf k39_1.eq_1, c39, this, TL, EVS, Nat.reduceAdd, Nat.reduceSub, Int.reduceToNat, Nat.reduceMul, Nat.reduceEqDiff, Nat.reduceLeDiff, Int.reduceEq, Int.reduceLT, Int.reduceLE, ↓reduceIte]
  exact ⟨n, true, rfl, h1, h2, fun _ _ => by rw [List.drop_eq_nil_of_le (by omega)]; exact ⟨rfl, by show 0 + 1 ≤ dp; omega⟩⟩
 |succ k ihk =>
  intro i n hi h1 h2
  have : (i : Int) < t.l.length := by omega
  by_cases hn : n ≤ limit
  ·have hnl : (n : Int) ≤ limit := by omega
   obtain ⟨m, is, m1, m2, m3, hx⟩ := ih _ (getD_mem (d := default) (show i < t.l.length by omega)) (limit - n) (dp - 1) (by omega) (by omega)
   rw [show ((limit - n : Nat) : Int) = (limit : Int) - n by omega, show ((dp - 1 : Nat) : Int) = (dp : Int) - 1 by omega] at hx
   cases is with
   |true =>
    simp (disch := first | omega | (simp only [EVL] <;> omega) | (simp only [hget_c, Nat.reduceEqDiff, ↓reduceIte]; done) | assumption | (simp (disch := omega) only [hg_ne, hg_eq, hgs_ne, *]; done) | (simp only [TL]; done) | with_unfolding_all rfl) only [unf b39_0.eq_1, c39, this, hnl, TL, hx, EVS, Nat.reduceAdd, Nat.reduceSub, Int.reduceToNat, Nat.reduceMul, Nat.reduceEqDiff, Nat.reduceLeDiff, Int.reduceEq, Int.reduceLT, Int.reduceLE, ↓reduceIte]
    refine Ok_inL (by decide) (by simp [lowTm, low, lows, TL]) (by simp [cutH, lowHeap, lowObj, lows, low, TL]) (Ok_post (ihk (i + 1) (n + m) (by omega) (by omega) (by omega)) fun x v hv => ?_)
    obtain ⟨m', is', e, q1, q2, q3⟩ := hv
    refine ⟨m', is', e, q1, q2, fun e1 e2 => ?_⟩
    obtain ⟨r1, r2⟩ := q3 e1 e2
    have hm := m3 rfl (by omega)
    rw [sizes_drop (by omega), depths_drop (by omega)]
    omega
   |false =>
    simp (disch := first | omega | (simp only [EVL] <;> omega) | (simp only [hget_c, Nat.reduceEqDiff, ↓reduceIte]; done) | assumption | (simp (disch := omega) only [hg_ne, hg_eq, hgs_ne, *]; done) | (simp only [TL]; done) | with_unfolding_all rfl) only [unf b39_0.eq_1, c39, this, hnl, TL, hx, EVS, Nat.reduceAdd, Nat.reduceSub, Int.reduceToNat, Nat.reduceMul, Nat.reduceEqDiff, Nat.reduceLeDiff, Int.reduceEq, Int.reduceLT, Int.reduceLE, ↓reduceIte]
    exact ⟨n, false, rfl, h1, h2, fun e => by cases e⟩
  ·have hnl : ¬ (n : Int) ≤ limit := by omega
   simp (disch := first | omega | (simp only [EVL] <;> omega) | (simp only [hget_c, Nat.reduceEqDiff, ↓reduceIte]; done) | assumption | (simp (disch := omega) only [hg_ne, hg_eq, hgs_ne, *]; done) | (simp only [TL]; done) | with_unfolding_all rfl) only [unf b39_0.eq_1, unf k39_1.eq_1, c39, this, hnl, TL, EVS, Nat.reduceAdd, Nat.reduceSub, Int.reduceToNat, Nat.reduceMul, Nat.reduceEqDiff, Nat.reduceLeDiff, Int.reduceEq, Int.reduceLT, Int.reduceLE, ↓reduceIte]
   exact ⟨n, true, rfl, h1, h2, fun _ e => absurd e hn⟩
theorem count_spec (t : Te) (ht : TOk t) : ∀ (limit dp : Nat), limit ≤ 500 → dp ≤ 80 → ∃ (n : Nat) (is : Bool), 1 ≤ n ∧ n ≤ limit + 1 ∧ (is = true → n ≤ limit → n = size t ∧ depth t ≤ dp) ∧ ∀ h nx, lim T 39 [.agg [.int .u8 (t).k, .int .i64 (t).w, .int .u64 (t).b, .str (t).s, .int .i64 (t).lo, .lst (t).e ((t).l.map tV)], .int .i64 limit, .int .i64 dp] h nx = some (.tup [.int .i64 n, .bool is], h, nx) := by
 induction t using Tm'.ind with
 |h t ih =>
 intro limit dp hl hdp
 have hlen : t.l.length ≤ 9223372036854775807 := ht.self.2.2.2.2.2
 obtain ⟨v, ⟨n, is, rfl, q1, q2, q3⟩, hh⟩ := lim_isoP (p := fun v => ∃ (m : Nat) (is : Bool), v = .tup [.int .i64 m, .bool is] ∧ 1 ≤ m ∧ m ≤ limit + 1 ∧ (is = true → m ≤ limit → m = size t ∧ depth t ≤ dp)) tg39 rfl (args := [.agg [.int .u8 (t).k, .int .i64 (t).w, .int .u64 (t).b, .str (t).s, .int .i64 (t).lo, .lst (t).e ((t).l.map tV)], .int .i64 limit, .int .i64 dp]) rfl (by simp [pures, pure_, pu_Ts]) (by
  by_cases hd : dp = 0
  ·have hd' : (dp : Int) = 0 := by omega
   simp (disch := first | omega | (simp only [EVL] <;> omega) | (simp only [hget_c, Nat.reduceEqDiff, ↓reduceIte]; done) | assumption | (simp (disch := omega) only [hg_ne, hg_eq, hgs_ne, *]; done) | (simp only [TL]; done) | with_unfolding_all rfl) only [c39, TL, hd', EVS, Nat.reduceAdd, Nat.reduceSub, Int.reduceToNat, Nat.reduceMul, Nat.reduceEqDiff, Nat.reduceLeDiff, Int.reduceEq, Int.reduceLT, Int.reduceLE, ↓reduceIte]
   exact ⟨1, false, rfl, by omega, by omega, fun e => by cases e⟩
  ·have hd' : ¬ (dp : Int) = 0 := by omega
   simp (disch := first | omega | (simp only [EVL] <;> omega) | (simp only [hget_c, Nat.reduceEqDiff, ↓reduceIte]; done) | assumption | (simp (disch := omega) only [hg_ne, hg_eq, hgs_ne, *]; done) | (simp only [TL]; done) | with_unfolding_all rfl) only [c39, TL, hd', EVS, Nat.reduceAdd, Nat.reduceSub, Int.reduceToNat, Nat.reduceMul, Nat.reduceEqDiff, Nat.reduceLeDiff, Int.reduceEq, Int.reduceLT, Int.reduceLE, ↓reduceIte]
   refine Ok_post (count_loop t limit dp hl hdp (by omega) hlen (fun x hx => ih x hx (ht.sub hx)) t.l.length 0 1 (by omega) (by omega) (by omega)) fun x v hv => ?_
   rw [List.drop_zero] at hv
   rw [size_eq, depth_eq]; exact hv)
 exact ⟨n, is, q1, q2, q3, hh⟩
theorem long_loop (t : Te) (hlen : t.l.length ≤ 9223372036854775807)
  (ih : ∀ x ∈ t.l, ∃ b : Bool, (b = false → ∀ y ∈ nodesT x, y.s.length ≤ 200) ∧ ∀ h nx, lim T 40 [.agg [.int .u8 (x).k, .int .i64 (x).w, .int .u64 (x).b, .str (x).s, .int .i64 (x).lo, .lst (x).e ((x).l.map tV)]] h nx = some (.bool b, h, nx)) :
  ∀ (k i : Nat), i + k = t.l.length → (∀ j, j < i → ∀ y ∈ nodesT (t.l.getD j default), y.s.length ≤ 200) →
  @Ok Out (runs T [.code b40_0, .inL (some 3) b40_0, .inB 0, .code k40_1] [(1, .ptr 0 1 0 0), (3, .int .i64 i)] [(0, .row 6 [.agg [.int .u8 (t).k, .int .i64 (t).w, .int .u64 (t).b, .str (t).s, .int .i64 (t).lo, .lst (t).e ((t).l.map tV)]])] 3)
   ⟨fun x => @Ok FV (resV c40.res x) ⟨fun v => ∃ b : Bool, v = .bool b ∧ (b = false → ∀ y ∈ nodesT t, y.s.length ≤ 200)⟩⟩ := by
 intro k
 induction k with
 |zero =>
  intro i hi hok
  have : ¬ (i : Int) < t.l.length := by omega
  simp (disch := first | omega | (simp only [EVL] <;> omega) | (simp only [hget_c, Nat.reduceEqDiff, ↓reduceIte]; done) | assumption | (simp (disch := omega) only [hg_ne, hg_eq, hgs_ne, *]; done) | (simp only [TL]; done) | with_unfolding_all rfl) only [unf b40_0.eq_1, unf k40_1.eq_1, c40, this, TL, EVS, Nat.reduceAdd, Nat.reduceSub, Int.reduceToNat, Nat.reduceMul, Nat.reduceEqDiff, Nat.reduceLeDiff, Int.reduceEq, Int.reduceLT, Int.reduceLE, ↓reduceIte]
  refine ⟨_, rfl, fun e => ?_⟩
  have e := of_decide_eq_false e
  refine all_nodes.2 ⟨by omega, fun x hx => ?_⟩
  obtain ⟨j, hj, rfl⟩ := List.mem_iff_getElem.1 hx
  have := hok j (by omega)
  simpa [List.getD, hj] using this
 |succ k ihk =>
  intro i hi hok
  have : (i : Int) < t.l.length := by omega
  obtain ⟨b, hb, hx⟩ := ih _ (getD_mem (d := default) (show i < t.l.length by omega))
  cases b with
  |true =>
   simp (disch := first | omega | (simp only [EVL] <;> omega) | (simp only [hget_c, Nat.reduceEqDiff, ↓reduceIte]; done) | assumption | (simp (disch := omega) only [hg_ne, hg_eq, hgs_ne, *]; done) | (simp only [TL]; done) | with_unfolding_all rfl) only [unf b40_0.eq_1, c40, this, TL, hx, EVS, Nat.reduceAdd, Nat.reduceSub, Int.reduceToNat, Nat.reduceMul, Nat.reduceEqDiff, Nat.reduceLeDiff, Int.reduceEq, Int.reduceLT, Int.reduceLE, ↓reduceIte]
   exact ⟨true, rfl, fun e => by cases e⟩
  |false =>
   simp (disch := first | omega | (simp only [EVL] <;> omega) | (simp only [hget_c, Nat.reduceEqDiff, ↓reduceIte]; done) | assumption | (simp (disch := omega) only [hg_ne, hg_eq, hgs_ne, *]; done) | (simp only [TL]; done) | with_unfolding_all rfl) only [unf b40_0.eq_1, c40, this, TL, hx, EVS, Nat.reduceAdd, Nat.reduceSub, Int.reduceToNat, Nat.reduceMul, Nat.reduceEqDiff, Nat.reduceLeDiff, Int.reduceEq, Int.reduceLT, Int.reduceLE, ↓reduceIte]
   exact Ok_inL (by decide) (by simp [lowTm, low, lows, TL]) (by simp [cutH, lowHeap, lowObj, lows, low, TL]) (ihk (i + 1) (by omega) (fun j hj => by
    by_cases e : j = i
    ·subst e; exact hb rfl
    ·exact hok j (by omega)))
theorem long_spec (t : Te) (ht : TOk t) : ∃ b : Bool, (b = false → ∀ y ∈ nodesT t, y.s.length ≤ 200) ∧ ∀ h nx, lim T 40 [.agg [.int .u8 (t).k, .int .i64 (t).w, .int .u64 (t).b, .str (t).s, .int .i64 (t).lo, .lst (t).e ((t).l.map tV)]] h nx = some (.bool b, h, nx) := by
 induction t using Tm'.ind with
 |h t ih =>
 have hlen : t.l.length ≤ 9223372036854775807 := ht.self.2.2.2.2.2
 have hsl : t.s.length ≤ 9223372036854775807 := ht.self.2.2.2.1
 obtain ⟨v, ⟨b, rfl, hb⟩, hh⟩ := lim_isoP (p := fun v => ∃ b : Bool, v = .bool b ∧ (b = false → ∀ y ∈ nodesT t, y.s.length ≤ 200)) tg40 rfl (args := [.agg [.int .u8 (t).k, .int .i64 (t).w, .int .u64 (t).b, .str (t).s, .int .i64 (t).lo, .lst (t).e ((t).l.map tV)]]) rfl (by simp [pures, pure_, pu_Ts]) (by
  simp (disch := first | omega | (simp only [EVL] <;> omega) | (simp only [hget_c, Nat.reduceEqDiff, ↓reduceIte]; done) | assumption | (simp (disch := omega) only [hg_ne, hg_eq, hgs_ne, *]; done) | (simp only [TL]; done) | with_unfolding_all rfl) only [c40, TL, EVS, Nat.reduceAdd, Nat.reduceSub, Int.reduceToNat, Nat.reduceMul, Nat.reduceEqDiff, Nat.reduceLeDiff, Int.reduceEq, Int.reduceLT, Int.reduceLE, ↓reduceIte]
  exact long_loop t hlen (fun x hx => ih x hx (ht.sub hx)) t.l.length 0 (by omega) (fun j hj => by omega))
 exact ⟨b, hb, hh⟩
def SmallT (t : Te) : Prop := size t ≤ 500 ∧ depth t ≤ 80 ∧ ∀ y ∈ nodesT t, y.s.length ≤ 200
theorem great_spec (t : Te) (ht : TOk t) : ∃ b : Bool, (b = false → SmallT t) ∧ ∀ h nx, lim T 9 [.agg [.int .u8 (t).k, .int .i64 (t).w, .int .u64 (t).b, .str (t).s, .int .i64 (t).lo, .lst (t).e ((t).l.map tV)]] h nx = some (.bool b, h, nx) := by
 obtain ⟨n, is, n1, n2, n3, hc⟩ := count_spec t ht 500 80 (by omega) (by omega)
 obtain ⟨b, hb, hlg⟩ := long_spec t ht
 simp only [Int.cast_ofNat_Int] at hc
 obtain ⟨v, ⟨b, rfl, hb⟩, hh⟩ := lim_isoP (p := fun v => ∃ b : Bool, v = .bool b ∧ (b = false → SmallT t)) tg9 rfl (args := [.agg [.int .u8 (t).k, .int .i64 (t).w, .int .u64 (t).b, .str (t).s, .int .i64 (t).lo, .lst (t).e ((t).l.map tV)]]) rfl (by simp [pures, pure_, pu_Ts]) (by
  cases is with
  |false =>
   simp (disch := first | omega | (simp only [EVL] <;> omega) | (simp only [hget_c, Nat.reduceEqDiff, ↓reduceIte]; done) | assumption | (simp (disch := omega) only [hg_ne, hg_eq, hgs_ne, *]; done) | (simp only [TL]; done) | with_unfolding_all rfl) only [c9, TL, hc, EVS, Nat.reduceAdd, Nat.reduceSub, Int.reduceToNat, Nat.reduceMul, Nat.reduceEqDiff, Nat.reduceLeDiff, Int.reduceEq, Int.reduceLT, Int.reduceLE, ↓reduceIte]
   exact ⟨true, rfl, fun e => by cases e⟩
  |true =>
   by_cases hn : (500 : Int) < n
   ·simp (disch := first | omega | (simp only [EVL] <;> omega) | (simp only [hget_c, Nat.reduceEqDiff, ↓reduceIte]; done) | assumption | (simp (disch := omega) only [hg_ne, hg_eq, hgs_ne, *]; done) | (simp only [TL]; done) | with_unfolding_all rfl) only [c9, TL, hc, hn, EVS, Nat.reduceAdd, Nat.reduceSub, Int.reduceToNat, Nat.reduceMul, Nat.reduceEqDiff, Nat.reduceLeDiff, Int.reduceEq, Int.reduceLT, Int.reduceLE, ↓reduceIte]
    exact ⟨true, rfl, fun e => by cases e⟩
   ·have hq := n3 rfl (by omega)
    simp (disch := first | omega | (simp only [EVL] <;> omega) | (simp only [hget_c, Nat.reduceEqDiff, ↓reduceIte]; done) | assumption | (simp (disch := omega) only [hg_ne, hg_eq, hgs_ne, *]; done) | (simp only [TL]; done) | with_unfolding_all rfl) only [c9, TL, hc, hn, hlg, EVS, Nat.reduceAdd, Nat.reduceSub, Int.reduceToNat, Nat.reduceMul, Nat.reduceEqDiff, Nat.reduceLeDiff, Int.reduceEq, Int.reduceLT, Int.reduceLE, ↓reduceIte]
    exact ⟨b, rfl, fun e => ⟨by omega, hq.2, hb e⟩⟩)
 exact ⟨b, hb, hh⟩

def goodB (env : Env) (i : Nat) : Prop := nameS (strip (env.getD i ([], 0, 0)).1) ∧ okS (env.getD i ([], 0, 0)).2.1 (env.getD i ([], 0, 0)).2.2 ∧ (i ≠ 0 → Op.bytesLess (env.getD (i - 1) ([], 0, 0)).1 (env.getD i ([], 0, 0)).1 = true)
open Classical in
noncomputable def chkB (env : Env) : Int := if env.length ≤ 1000 ∧ ∀ i, i < env.length → goodB env i then 0 else 8
theorem chkB_ok {env : Env} (h1 : env.length ≤ 1000) (h2 : ∀ i, i < env.length → goodB env i) : 0 = chkB env := (if_pos ⟨h1, h2⟩).symm
theorem chkB_no {env : Env} (h : ¬ (env.length ≤ 1000 ∧ ∀ i, i < env.length → goodB env i)) : 8 = chkB env := (if_neg h).symm
theorem toNat_subE (i : Nat) : ((i : Int) - 1).toNat = i - 1 := by omega
theorem upToE {p : Nat → Prop} {i : Nat} (h : ∀ j, j < i → p j) (hi : p i) : ∀ j, j < i + 1 → p j := fun j hj => by
 by_cases e : j = i
 ·subst e; exact hi
 ·exact h j (by omega)
theorem checkB_loop (e : Bool) (env : Env) (hl : env.length ≤ 1000) : ∀ (k i : Nat), i + k = env.length → (∀ j, j < i → goodB env j) →
  @Ok Out (runs T [.code b17_0, .inL (some 7) b17_0, .inB 0, .code k17_1] [(0, .lst e (env.map bdV)), (8, .lst e (env.map bdV)), (9, .int .i64 env.length), (10, .int .i64 i)] [] 7) ⟨fun x => resV c17.res x = some (.int .i64 (chkB env))⟩ := by
 intro k
 induction k with
 |zero =>
  intro i hi hok
  have : ¬ (i : Int) < env.length := by omega
  simp (disch := first | omega | (simp only [EVL] <;> omega) | (simp only [hget_c, Nat.reduceEqDiff, ↓reduceIte]; done) | assumption | (simp (disch := omega) only [hg_ne, hg_eq, hgs_ne, *]; done) | (simp only [TL, EnL]; done) | with_unfolding_all rfl) only [unf b17_0.eq_1, unf k17_1.eq_1, c17, this, EVS, Nat.reduceAdd, Nat.reduceSub, Int.reduceToNat, Nat.reduceMul, Nat.reduceEqDiff, Nat.reduceLeDiff, Int.reduceEq, Int.reduceLT, Int.reduceLE, ↓reduceIte]
  exact chkB_ok hl fun j hj => hok j (by omega)
 |succ k ih =>
  intro i hi hok
  have : (i : Int) < env.length := by omega
  simp (disch := first | omega | (simp only [EVL] <;> omega) | (simp only [hget_c, Nat.reduceEqDiff, ↓reduceIte]; done) | assumption | (simp (disch := omega) only [hg_ne, hg_eq, hgs_ne, *]; done) | (simp only [TL, EnL]; done) | with_unfolding_all rfl) only [unf b17_0.eq_1, c17, this, EnL, varT_spec, EVS, Nat.reduceAdd, Nat.reduceSub, Int.reduceToNat, Nat.reduceMul, Nat.reduceEqDiff, Nat.reduceLeDiff, Int.reduceEq, Int.reduceLT, Int.reduceLE, ↓reduceIte]
  repeat' (refine Ok_if (fun hb => ?_) (fun hb => ?_) <;> have h := hb <;> (try simp only [decide_eq_true_eq, decide_eq_false_iff_not, Int.not_lt, Int.not_le] at h) <;> (simp (disch := first | omega | (simp only [EVL] <;> omega) | (simp only [hget_c, Nat.reduceEqDiff, ↓reduceIte]; done) | assumption | (simp (disch := omega) only [hg_ne, hg_eq, hgs_ne, *]; done) | (simp only [TL, EnL]; done) | with_unfolding_all rfl) only [hb, c17, EnL, gd_e, toNat_subE, okB_spec, EVS, Nat.reduceAdd, Nat.reduceSub, Int.reduceToNat, Nat.reduceMul, Nat.reduceEqDiff, Nat.reduceLeDiff, Int.reduceEq, Int.reduceLT, Int.reduceLE, ↓reduceIte]) <;> (try clear hb))
  all_goals first
   |exact Ok_inL (by decide) (by simp [lowTm, low, EnL]) (by simp [cutH, lowHeap]) (ih (i + 1) (by omega) (upToE hok ⟨by assumption, by assumption, fun _ => by first | omega | assumption⟩))
   |exact chkB_no fun hg => by
     obtain ⟨q1, q2, q3⟩ := hg.2 i (by omega)
     first | exact absurd q1 (by assumption) | exact absurd q2 (by assumption) | (have := q3 (by omega); simp_all; done)
theorem checkB_spec (e : Bool) (env : Env) (hl : env.length ≤ 1100) : ∀ h nx, lim T 17 [.lst e (env.map bdV)] h nx = some (.int .i64 (chkB env), h, nx) := by
 refine lim_iso tg17 rfl rfl (by simp [pures, pure_, pu_e]) ?_
 simp (disch := first | omega | (simp only [EVL] <;> omega) | (simp only [hget_c, Nat.reduceEqDiff, ↓reduceIte]; done) | assumption | (simp (disch := omega) only [hg_ne, hg_eq, hgs_ne, *]; done) | (simp only [TL, EnL]; done) | with_unfolding_all rfl) only [c17, EnL, EVS, Nat.reduceAdd, Nat.reduceSub, Int.reduceToNat, Nat.reduceMul, Nat.reduceEqDiff, Nat.reduceLeDiff, Int.reduceEq, Int.reduceLT, Int.reduceLE, ↓reduceIte]
 repeat' (refine Ok_if (fun hb => ?_) (fun hb => ?_) <;> have h := hb <;> (try simp only [decide_eq_true_eq, decide_eq_false_iff_not, Int.not_lt, Int.not_le] at h) <;> (simp (disch := first | omega | (simp only [EVL] <;> omega) | (simp only [hget_c, Nat.reduceEqDiff, ↓reduceIte]; done) | assumption | (simp (disch := omega) only [hg_ne, hg_eq, hgs_ne, *]; done) | (simp only [TL, EnL]; done) | with_unfolding_all rfl) only [hb, c17, EnL, EVS, Nat.reduceAdd, Nat.reduceSub, Int.reduceToNat, Nat.reduceMul, Nat.reduceEqDiff, Nat.reduceLeDiff, Int.reduceEq, Int.reduceLT, Int.reduceLE, ↓reduceIte]) <;> (try clear hb))
 ·exact chkB_no fun hg => by have := hg.1; omega
 ·exact checkB_loop e env (by omega) env.length 0 (by omega) (by omega)
theorem cmpE_spec (n : List UInt8) (w x : Int) (s : List UInt8) : ∀ h nx, lim T 42 [.agg [.str n, .int .i64 w, .int .u64 x], .str s] h nx = some (.int .i64 (Go.Lib.compareBytes n s), h, nx) := by
 have a : ∀ h nx, lim T 73 [.str n, .str s] h nx = some (.int .i64 (Go.Lib.compareBytes n s), h, nx) := by
  refine lim_iso tg73 rfl rfl rfl ?_
  simp (disch := first | omega | (simp only [EVL] <;> omega) | (simp only [hget_c, Nat.reduceEqDiff, ↓reduceIte]; done) | assumption | (simp (disch := omega) only [hg_ne, hg_eq, hgs_ne, *]; done) | (simp only [TL, EnL]; done) | with_unfolding_all rfl) only [c73, EVS, Nat.reduceAdd, Nat.reduceSub, Int.reduceToNat, Nat.reduceMul, Nat.reduceEqDiff, Nat.reduceLeDiff, Int.reduceEq, Int.reduceLT, Int.reduceLE, ↓reduceIte]
 have b : ∀ h nx, lim T 43 [.str n, .str s] h nx = some (.int .i64 (Go.Lib.compareBytes n s), h, nx) := by
  refine lim_iso tg43 rfl rfl rfl ?_
  simp (disch := first | omega | (simp only [EVL] <;> omega) | (simp only [hget_c, Nat.reduceEqDiff, ↓reduceIte]; done) | assumption | (simp (disch := omega) only [hg_ne, hg_eq, hgs_ne, *]; done) | (simp only [TL, EnL]; done) | with_unfolding_all rfl) only [c43, a, EVS, Nat.reduceAdd, Nat.reduceSub, Int.reduceToNat, Nat.reduceMul, Nat.reduceEqDiff, Nat.reduceLeDiff, Int.reduceEq, Int.reduceLT, Int.reduceLE, ↓reduceIte]
 refine lim_iso tg42 rfl rfl rfl ?_
 simp (disch := first | omega | (simp only [EVL] <;> omega) | (simp only [hget_c, Nat.reduceEqDiff, ↓reduceIte]; done) | assumption | (simp (disch := omega) only [hg_ne, hg_eq, hgs_ne, *]; done) | (simp only [TL, EnL]; done) | with_unfolding_all rfl) only [c42, b, EVS, Nat.reduceAdd, Nat.reduceSub, Int.reduceToNat, Nat.reduceMul, Nat.reduceEqDiff, Nat.reduceLeDiff, Int.reduceEq, Int.reduceLT, Int.reduceLE, ↓reduceIte]
abbrev PS (env : Env) (s : List UInt8) (r : FV) : Prop := ∃ i : Nat, i ≤ env.length ∧ (∀ k, k < i → Op.bytesLess (nm env k) s = true) ∧ (∀ k, i ≤ k → k < env.length → ¬ Op.bytesLess (nm env k) s = true) ∧ r = .tup [.int .i64 i, .bool (decide (i < env.length ∧ (env.getD i ([], 0, 0)).1 = s))]
theorem bsB_loop (e : Bool) (env : Env) (s : List UInt8) (hl : env.length ≤ 1100)
  (mono : ∀ a b, a < b → b < env.length → Op.bytesLess (nm env a) (nm env b) = true) : ∀ (n i j : Nat), j - i ≤ n → i ≤ j → j ≤ env.length → (∀ k, k < i → Op.bytesLess (nm env k) s = true) → (∀ k, j ≤ k → k < env.length → ¬ Op.bytesLess (nm env k) s = true) →
  @Ok Out (runs T [.code b41_0, .inL (some 8) b41_0, .inB 0, .code k41_1] [(0, .lst e (env.map bdV)), (1, .str s), (2, .fn 42 []), (8, .int .i64 env.length), (9, .int .i64 i), (10, .int .i64 j)] [] 8) ⟨fun x => @Ok FV (resV c41.res x) ⟨PS env s⟩⟩ := by
 intro n
 induction n with
 |zero =>
  intro i j hn hij hj lo hi
  have : ¬ (i : Int) < j := by omega
  have e : j = i := by omega
  subst e
  simp (disch := first | omega | (simp only [EVL] <;> omega) | (simp only [hget_c, Nat.reduceEqDiff, ↓reduceIte]; done) | assumption | (simp (disch := omega) only [hg_ne, hg_eq, hgs_ne, *]; done) | (simp only [TL, EnL]; done) | with_unfolding_all rfl) only [unf b41_0.eq_1, unf k41_1.eq_1, c41, this, EnL, EVS, Nat.reduceAdd, Nat.reduceSub, Int.reduceToNat, Nat.reduceMul, Nat.reduceEqDiff, Nat.reduceLeDiff, Int.reduceEq, Int.reduceLT, Int.reduceLE, ↓reduceIte]
  repeat' (refine Ok_if (fun hb => ?_) (fun hb => ?_) <;> have h := hb <;> (try simp only [decide_eq_true_eq, decide_eq_false_iff_not, Int.not_lt, Int.not_le] at h) <;> (simp (disch := first | omega | (simp only [EVL] <;> omega) | (simp only [hget_c, Nat.reduceEqDiff, ↓reduceIte]; done) | assumption | (simp (disch := omega) only [hg_ne, hg_eq, hgs_ne, *]; done) | (simp only [TL, EnL]; done) | with_unfolding_all rfl) only [hb, c41, EnL, gd_e, cmpE_spec, EVS, Nat.reduceAdd, Nat.reduceSub, Int.reduceToNat, Nat.reduceMul, Nat.reduceEqDiff, Nat.reduceLeDiff, Int.reduceEq, Int.reduceLT, Int.reduceLE, ↓reduceIte]) <;> (try clear hb))
  ·refine ⟨j, hj, lo, hi, ?_⟩
   rw [show decide (Go.Lib.compareBytes (List.getD env j ([], 0, 0)).1 s = 0) = decide (j < env.length ∧ (env.getD j ([], 0, 0)).1 = s) from decide_eq_decide.2 ((cb_eq _ _).trans ⟨fun h' => ⟨by omega, h'⟩, fun h' => h'.2⟩)]
  ·refine ⟨j, hj, lo, hi, ?_⟩
   rw [show decide (j < env.length ∧ (env.getD j ([], 0, 0)).1 = s) = false from decide_eq_false fun h' => by omega]
 |succ n ih =>
  intro i j hn hij hj lo hi
  by_cases hlt : i < j
  ·have : (i : Int) < j := by omega
   have hx : ((i : Int) + j) / 2 = ((i + j) / 2 : Nat) := by omega
   have hx1 : (i + j) / 2 < env.length := by omega
   simp (disch := first | omega | (simp only [EVL] <;> omega) | (simp only [hget_c, Nat.reduceEqDiff, ↓reduceIte]; done) | assumption | (simp (disch := omega) only [hg_ne, hg_eq, hgs_ne, *]; done) | (simp only [TL, EnL]; done) | with_unfolding_all rfl) only [unf b41_0.eq_1, c41, this, EnL, shr1, hx, cmpE_spec, EVS, Nat.reduceAdd, Nat.reduceSub, Int.reduceToNat, Nat.reduceMul, Nat.reduceEqDiff, Nat.reduceLeDiff, Int.reduceEq, Int.reduceLT, Int.reduceLE, ↓reduceIte]
   repeat' (refine Ok_if (fun hb => ?_) (fun hb => ?_) <;> have h := hb <;> (try simp only [decide_eq_true_eq, decide_eq_false_iff_not, Int.not_lt, Int.not_le] at h) <;> (simp (disch := first | omega | (simp only [EVL] <;> omega) | (simp only [hget_c, Nat.reduceEqDiff, ↓reduceIte]; done) | assumption | (simp (disch := omega) only [hg_ne, hg_eq, hgs_ne, *]; done) | (simp only [TL, EnL]; done) | with_unfolding_all rfl) only [hb, c41, EnL, gd_e, cmpE_spec, EVS, Nat.reduceAdd, Nat.reduceSub, Int.reduceToNat, Nat.reduceMul, Nat.reduceEqDiff, Nat.reduceLeDiff, Int.reduceEq, Int.reduceLT, Int.reduceLE, ↓reduceIte]) <;> (try clear hb))
   ·rw [cb_lt] at h
    refine Ok_inL (by decide) (by simp [lowTm, low, lows, EnL]) (by simp [cutH, lowHeap]) (ih ((i + j) / 2 + 1) j (by omega) (by omega) hj (fun k hk => ?_) hi)
    by_cases e : k = (i + j) / 2
    ·rw [e]; exact h
    ·exact less_trans (mono k ((i + j) / 2) (by omega) hx1) h
   ·refine Ok_inL (by decide) (by simp [lowTm, low, lows, EnL]) (by simp [cutH, lowHeap]) (ih i ((i + j) / 2) (by omega) (by omega) (by omega) lo (fun k hk hk' hb => ?_))
    have h' : ¬ Op.bytesLess (nm env ((i + j) / 2)) s = true := fun hb => by have hb' : Go.Lib.compareBytes (List.getD env ((i + j) / 2) ([], 0, 0)).1 s < 0 := (cb_lt _ _).2 hb; omega
    by_cases e : k = (i + j) / 2
    ·rw [e] at hb; exact h' hb
    ·exact h' (less_trans (mono ((i + j) / 2) k (by omega) hk') hb)
  ·exact ih i j (by omega) hij hj lo hi
theorem search_spec (e : Bool) (env : Env) (s : List UInt8) (hl : env.length ≤ 1100) (mono : ∀ a b, a < b → b < env.length → Op.bytesLess (nm env a) (nm env b) = true) :
  ∃ r, PS env s r ∧ ∀ h nx, lim T 41 [.lst e (env.map bdV), .str s, .fn 42 []] h nx = some (r, h, nx) := by
 refine lim_isoP tg41 rfl rfl (by simp [pures, pure_, pu_e]) ?_
 simp (disch := first | omega | (simp only [EVL] <;> omega) | (simp only [hget_c, Nat.reduceEqDiff, ↓reduceIte]; done) | assumption | (simp (disch := omega) only [hg_ne, hg_eq, hgs_ne, *]; done) | (simp only [TL, EnL]; done) | with_unfolding_all rfl) only [c41, EnL, EVS, Nat.reduceAdd, Nat.reduceSub, Int.reduceToNat, Nat.reduceMul, Nat.reduceEqDiff, Nat.reduceLeDiff, Int.reduceEq, Int.reduceLT, Int.reduceLE, ↓reduceIte]
 exact bsB_loop e env s hl mono env.length 0 env.length (by omega) (by omega) (by omega) (by omega) (by omega)
abbrev PgB (env : Env) (r : FV) : Prop := ∃ b, r = .bool b ∧ (b = false → env.length ≤ 1100)
theorem greatB_loop {e} (env : Env) (hl : env.length ≤ 1100) : ∀ (k i : Nat), i + k = env.length →
  @Ok Out (runs T [.code b10_0, .inL (some 10) b10_0, .inB 0, .code k10_1] [(0, .lst e (env.map bdV)), (5, .int .i64 i)] [] 10) ⟨fun x => @Ok FV (resV c10.res x) ⟨PgB env⟩⟩ := by
 intro k
 induction k with
 |zero =>
  intro i hi
  have : ¬ (i : Int) < env.length := by omega
  simp (disch := first | omega | (simp only [EVL] <;> omega) | (simp only [hget_c, Nat.reduceEqDiff, ↓reduceIte]; done) | assumption | (simp (disch := omega) only [hg_ne, hg_eq, hgs_ne, *]; done) | (simp only [TL, EnL]; done) | with_unfolding_all rfl) only [unf b10_0.eq_1, unf k10_1.eq_1, c10, this, EnL, EVS, Nat.reduceAdd, Nat.reduceSub, Int.reduceToNat, Nat.reduceMul, Nat.reduceEqDiff, Nat.reduceLeDiff, Int.reduceEq, Int.reduceLT, Int.reduceLE, ↓reduceIte]
  exact ⟨_, rfl, fun _ => hl⟩
 |succ k ih =>
  intro i hi
  have : (i : Int) < env.length := by omega
  simp (disch := first | omega | (simp only [EVL] <;> omega) | (simp only [hget_c, Nat.reduceEqDiff, ↓reduceIte]; done) | assumption | (simp (disch := omega) only [hg_ne, hg_eq, hgs_ne, *]; done) | (simp only [TL, EnL]; done) | with_unfolding_all rfl) only [unf b10_0.eq_1, c10, this, EnL, EVS, Nat.reduceAdd, Nat.reduceSub, Int.reduceToNat, Nat.reduceMul, Nat.reduceEqDiff, Nat.reduceLeDiff, Int.reduceEq, Int.reduceLT, Int.reduceLE, ↓reduceIte]
  repeat' (refine Ok_if (fun hb => ?_) (fun hb => ?_) <;> have h := hb <;> (try simp only [decide_eq_true_eq, decide_eq_false_iff_not, Int.not_lt, Int.not_le] at h) <;> (simp (disch := first | omega | (simp only [EVL] <;> omega) | (simp only [hget_c, Nat.reduceEqDiff, ↓reduceIte]; done) | assumption | (simp (disch := omega) only [hg_ne, hg_eq, hgs_ne, *]; done) | (simp only [TL, EnL]; done) | with_unfolding_all rfl) only [hb, c10, EnL, EVS, Nat.reduceAdd, Nat.reduceSub, Int.reduceToNat, Nat.reduceMul, Nat.reduceEqDiff, Nat.reduceLeDiff, Int.reduceEq, Int.reduceLT, Int.reduceLE, ↓reduceIte]) <;> (try clear hb))
  ·exact ⟨_, rfl, fun e => by cases e⟩
  ·exact Ok_inL (by decide) (by simp [lowTm, low, EnL]) (by simp [cutH, lowHeap]) (ih (i + 1) (by omega))
theorem greatB_spec {e d} (env : Env) (xs : List FV) (hp : pures xs = true) (h0 : xs.length ≤ 9223372036854775807) : ∃ r, (∃ b, r = .bool b ∧ (b = false → env.length ≤ 1100 ∧ xs.length ≤ 4200)) ∧ ∀ h nx, lim T 10 [.lst e (env.map bdV), .lst d xs] h nx = some (r, h, nx) := by
 refine lim_isoP tg10 rfl rfl (by simp [pures, pure_, pu_e, hp]) ?_
 simp (disch := first | omega | (simp only [EVL] <;> omega) | (simp only [hget_c, Nat.reduceEqDiff, ↓reduceIte]; done) | assumption | (simp (disch := omega) only [hg_ne, hg_eq, hgs_ne, *]; done) | (simp only [TL, EnL]; done) | with_unfolding_all rfl) only [c10, EnL, EVS, Nat.reduceAdd, Nat.reduceSub, Int.reduceToNat, Nat.reduceMul, Nat.reduceEqDiff, Nat.reduceLeDiff, Int.reduceEq, Int.reduceLT, Int.reduceLE, ↓reduceIte]
 repeat' (refine Ok_if (fun hb => ?_) (fun hb => ?_) <;> have h := hb <;> (try simp only [decide_eq_true_eq, decide_eq_false_iff_not, Int.not_lt, Int.not_le] at h) <;> (simp (disch := first | omega | (simp only [EVL] <;> omega) | (simp only [hget_c, Nat.reduceEqDiff, ↓reduceIte]; done) | assumption | (simp (disch := omega) only [hg_ne, hg_eq, hgs_ne, *]; done) | (simp only [TL, EnL]; done) | with_unfolding_all rfl) only [hb, c10, EVS, Nat.reduceAdd, Nat.reduceSub, Int.reduceToNat, Nat.reduceMul, Nat.reduceEqDiff, Nat.reduceLeDiff, Int.reduceEq, Int.reduceLT, Int.reduceLE, ↓reduceIte]) <;> (try clear hb))
 ·exact ⟨_, rfl, fun e => by cases e⟩
 ·exact ⟨_, rfl, fun e => by cases e⟩
 ·refine Ok_post (greatB_loop env (by omega) env.length 0 (by omega)) fun x v hv => ?_
  obtain ⟨b, rfl, hb⟩ := hv
  exact ⟨b, rfl, fun hf => ⟨hb hf, by omega⟩⟩
theorem chkB_good {env : Env} (h : chkB env = 0) : env.length ≤ 1000 ∧ ∀ i, i < env.length → goodB env i := by
 unfold chkB at h
 split at h
 ·assumption
 ·cases h
theorem chkB_bad {env : Env} (h : ¬ chkB env = 0) : chkB env = 8 := by
 unfold chkB at h ⊢
 split at h
 ·exact absurd rfl h
 ·rename_i hn; rw [if_neg hn]
theorem mono_of {env : Env} (h : ∀ i, i < env.length → goodB env i) : ∀ a b, a < b → b < env.length → Op.bytesLess (nm env a) (nm env b) = true := by
 intro a b hab hb
 induction b with
 |zero => omega
 |succ b ih =>
  have := (h (b + 1) hb).2.2 (by omega)
  simp only [Nat.add_sub_cancel] at this
  by_cases e : a = b
  ·rw [e]; exact this
  ·exact less_trans (ih (by omega) (by omega)) this

theorem nodesOk_iff (t : Te) : nodesOk t ↔ nodeS t ∧ ∀ x ∈ t.l, nodesOk x := all_nodes
theorem allW1 {l : List Te} {w : Int} (h : l.length = 1) : allW l w ↔ (l.getD 0 default).w = w :=
 ⟨fun hh => hh 0 (by omega), fun hh j hj => by rw [show j = 0 by omega]; exact hh⟩
theorem allW2 {l : List Te} {w : Int} (h : l.length = 2) : allW l w ↔ (l.getD 0 default).w = w ∧ (l.getD 1 default).w = w :=
 ⟨fun hh => ⟨hh 0 (by omega), hh 1 (by omega)⟩, fun hh j hj => by
  rcases (by omega : j = 0 ∨ j = 1) with rfl | rfl
  ·exact hh.1
  ·exact hh.2⟩
theorem node_k34 {t : Te} (h : t.k = 3 ∨ t.k = 4) : nodeS t ↔ wideS t.w ∧ t.b = 0 ∧ t.s = [] ∧ t.lo = 0 ∧ t.l.length = 1 ∧ subW t 0 = t.w := by
 have e1 : howS t.k = 1 := by unfold howS; (repeat' split) <;> omega
 have e2 : partsS t.k = 1 := by unfold partsS; (repeat' split) <;> omega
 have e3 : ((t.l.length : Int) = 1) ↔ t.l.length = 1 := by omega
 unfold nodeS
 rw [if_pos (by omega), e1, e2, e3]
 simp only [widthsS, Int.reduceEq, ↓reduceIte, or_false, or_true, true_and]
 exact ⟨fun ⟨a, b, c, d, e, f⟩ => ⟨a, b, c, d, e, (allW1 e).1 f⟩, fun ⟨a, b, c, d, e, f⟩ => ⟨a, b, c, d, e, (allW1 e).2 f⟩⟩
theorem node_k5 {t : Te} (h : 5 ≤ t.k ∧ t.k ≤ 15) : nodeS t ↔ wideS t.w ∧ t.b = 0 ∧ t.s = [] ∧ t.lo = 0 ∧ t.l.length = 2 ∧ subW t 0 = t.w ∧ subW t 1 = t.w := by
 have e1 : howS t.k = 1 := by unfold howS; (repeat' split) <;> omega
 have e2 : partsS t.k = 2 := by unfold partsS; (repeat' split) <;> omega
 have e3 : ((t.l.length : Int) = 2) ↔ t.l.length = 2 := by omega
 unfold nodeS
 rw [if_pos (by omega), e1, e2, e3]
 simp only [widthsS, Int.reduceEq, ↓reduceIte, or_false, or_true, true_and]
 exact ⟨fun ⟨a, b, c, d, e, f⟩ => ⟨a, b, c, d, e, (allW2 e).1 f⟩, fun ⟨a, b, c, d, e, f⟩ => ⟨a, b, c, d, e, (allW2 e).2 f⟩⟩
theorem node_k16 {t : Te} (h : 16 ≤ t.k ∧ t.k ≤ 18) : nodeS t ↔ wideS t.w ∧ t.b = 0 ∧ t.s = [] ∧ t.lo = 0 ∧ t.l.length = 2 ∧ t.w = 1 ∧ subW t 1 = subW t 0 := by
 have e1 : howS t.k = 2 := by unfold howS; (repeat' split) <;> omega
 have e2 : partsS t.k = 2 := by unfold partsS; (repeat' split) <;> omega
 have e3 : ((t.l.length : Int) = 2) ↔ t.l.length = 2 := by omega
 unfold nodeS
 rw [if_pos (by omega), e1, e2, e3]
 simp only [widthsS, Int.reduceEq, ↓reduceIte, or_false, or_true, true_and]
theorem node_k19 {t : Te} (h : t.k = 19) : nodeS t ↔ wideS t.w ∧ t.b = 0 ∧ t.s = [] ∧ t.lo = 0 ∧ t.l.length = 3 ∧ subW t 0 = 1 ∧ subW t 1 = t.w ∧ subW t 2 = t.w := by
 have e1 : howS t.k = 3 := by unfold howS; (repeat' split) <;> omega
 have e2 : partsS t.k = 3 := by unfold partsS; (repeat' split) <;> omega
 have e3 : ((t.l.length : Int) = 3) ↔ t.l.length = 3 := by omega
 unfold nodeS
 rw [if_pos (by omega), e1, e2, e3]
 simp only [widthsS, Int.reduceEq, ↓reduceIte, or_false, or_true, true_and]
theorem node_k20 {t : Te} (h : t.k = 20) : nodeS t ↔ wideS t.w ∧ t.b = 0 ∧ t.s = [] ∧ t.lo = 0 ∧ t.l.length = 2 ∧ wideS (subW t 0) ∧ wideS (subW t 1) ∧ subW t 0 + subW t 1 = t.w := by
 have e1 : howS t.k = 4 := by unfold howS; (repeat' split) <;> omega
 have e2 : partsS t.k = 2 := by unfold partsS; (repeat' split) <;> omega
 have e3 : ((t.l.length : Int) = 2) ↔ t.l.length = 2 := by omega
 unfold nodeS
 rw [if_pos (by omega), e1, e2, e3]
 simp only [widthsS, Int.reduceEq, ↓reduceIte, or_false, or_true, true_and]
theorem node_k21 {t : Te} (h : t.k = 21) : nodeS t ↔ wideS t.w ∧ t.b = 0 ∧ t.s = [] ∧ True ∧ t.l.length = 1 ∧ 0 ≤ t.lo ∧ wideS (subW t 0) ∧ t.w ≤ subW t 0 ∧ t.lo ≤ subW t 0 - t.w := by
 have e1 : howS t.k = 5 := by unfold howS; (repeat' split) <;> omega
 have e2 : partsS t.k = 1 := by unfold partsS; (repeat' split) <;> omega
 have e3 : ((t.l.length : Int) = 1) ↔ t.l.length = 1 := by omega
 unfold nodeS
 rw [if_pos (by omega), e1, e2, e3]
 simp only [widthsS, Int.reduceEq, ↓reduceIte, or_false, or_true, true_and]
theorem node_k22 {t : Te} (h : t.k = 22 ∨ t.k = 23) : nodeS t ↔ wideS t.w ∧ t.b = 0 ∧ t.s = [] ∧ t.lo = 0 ∧ t.l.length = 1 ∧ subW t 0 ≤ t.w := by
 have e1 : howS t.k = 6 := by unfold howS; (repeat' split) <;> omega
 have e2 : partsS t.k = 1 := by unfold partsS; (repeat' split) <;> omega
 have e3 : ((t.l.length : Int) = 1) ↔ t.l.length = 1 := by omega
 unfold nodeS
 rw [if_pos (by omega), e1, e2, e3]
 simp only [widthsS, Int.reduceEq, ↓reduceIte, or_false, or_true, true_and]
theorem node_k24 {t : Te} (h : t.k = 24) : nodeS t ↔ wideS t.w ∧ t.b = 0 ∧ t.s = [] ∧ t.lo = 0 ∧ t.l.length = 1 ∧ loadsS t.w := by
 have e1 : howS t.k = 7 := by unfold howS; (repeat' split) <;> omega
 have e2 : partsS t.k = 1 := by unfold partsS; (repeat' split) <;> omega
 have e3 : ((t.l.length : Int) = 1) ↔ t.l.length = 1 := by omega
 unfold nodeS
 rw [if_pos (by omega), e1, e2, e3]
 simp only [widthsS, Int.reduceEq, ↓reduceIte, or_false, or_true, true_and]
theorem node_k1 {t : Te} (h : t.k = 1) : nodeS t ↔ wideS t.w ∧ t.l.length = 0 ∧ t.lo = 0 ∧ t.s = [] ∧ okS t.w t.b := by
 unfold nodeS
 rw [if_neg (by omega)]
 simp only [h, Int.reduceEq, true_and, false_and, or_false]
theorem node_k2 {t : Te} (h : t.k = 2) : nodeS t ↔ wideS t.w ∧ t.l.length = 0 ∧ t.lo = 0 ∧ t.b = 0 ∧ nameS (strip t.s) := by
 unfold nodeS
 rw [if_neg (by omega)]
 simp only [h, Int.reduceEq, true_and, false_and, false_or]
theorem node_no {t : Te} (h : t.k < 1 ∨ 24 < t.k) : ¬ nodeS t := by
 unfold nodeS
 rw [if_neg (by omega)]
 rintro ⟨_, _, _, ⟨h1, _⟩ | ⟨h1, _⟩⟩ <;> omega

abbrev Mem := List (Int × Int)
def ceV (p : Int × Int) : FV := .agg [.int .u64 p.1, .int .u8 p.2]
theorem pu_m (l : Mem) : pures (l.map ceV) = true := pures_map (fun _ => rfl) _
theorem lo_m (b : Nat) (l : Mem) : lows b (l.map ceV) = true := lows_map (fun _ => rfl) _
theorem gd_m {l : Mem} {i : Nat} {d : FV} (h : i < l.length) : (l.map ceV).getD i d = .agg [.int .u64 (l.getD i (0, 0)).1, .int .u8 (l.getD i (0, 0)).2] := getD_map _ h
theorem LAWSm : type_of% (And.intro pu_m <| And.intro lo_m <| @gd_m) := And.intro pu_m <| And.intro lo_m <| @gd_m
theorem toNat_sub1 (i : Nat) : ((i : Int) - 1).toNat = i - 1 := by omega
theorem upTo {p : Nat → Prop} {i : Nat} (h : ∀ j, j < i → p j) (hi : p i) : ∀ j, j < i + 1 → p j := fun j hj => by
 by_cases e : j = i
 ·subst e; exact hi
 ·exact h j (by omega)
def goodM (m : Mem) (i : Nat) : Prop := (m.getD i (0, 0)).2 ≠ 0 ∧ (i ≠ 0 → (m.getD (i - 1) (0, 0)).1 < (m.getD i (0, 0)).1)
def memS (m : Mem) : Prop := m.length ≤ 4096 ∧ ∀ i, i < m.length → goodM m i
open Classical in
noncomputable def chkM (m : Mem) : Int := if memS m then 0 else 8
theorem chkM_ok {m : Mem} (h1 : m.length ≤ 4096) (h2 : ∀ i, i < m.length → goodM m i) : 0 = chkM m := (if_pos ⟨h1, h2⟩).symm
theorem chkM_no {m : Mem} (h : ¬ memS m) : 8 = chkM m := (if_neg h).symm
theorem checkCells_loop (e : Bool) (m : Mem) (hl : m.length ≤ 4096) : ∀ (k i : Nat), i + k = m.length → (∀ j, j < i → goodM m j) →
  @Ok Out (runs T [.code b15_0, .inL (some 7) b15_0, .inB 0, .code k15_1] [(0, .lst e (m.map ceV)), (8, .lst e (m.map ceV)), (9, .int .i64 m.length), (10, .int .i64 i)] [] 7) ⟨fun x => resV c15.res x = some (.int .i64 (chkM m))⟩ := by
 intro k
 induction k with
 |zero =>
  intro i hi hok
  have : ¬ (i : Int) < m.length := by omega
  simp (disch := first | omega | (simp only [EVL] <;> omega) | (simp only [hget_c, Nat.reduceEqDiff, ↓reduceIte]; done) | assumption | (simp (disch := omega) only [hg_ne, hg_eq, hgs_ne, *]; done) | (simp only [LAWSm]; done) | with_unfolding_all rfl) only [unf b15_0.eq_1, unf k15_1.eq_1, c15, this, EVS, Nat.reduceAdd, Nat.reduceSub, Int.reduceToNat, Nat.reduceMul, Nat.reduceEqDiff, Nat.reduceLeDiff, Int.reduceEq, Int.reduceLT, Int.reduceLE, ↓reduceIte]
  exact chkM_ok hl fun j hj => hok j (by omega)
 |succ k ih =>
  intro i hi hok
  have : (i : Int) < m.length := by omega
  simp (disch := first | omega | (simp only [EVL] <;> omega) | (simp only [hget_c, Nat.reduceEqDiff, ↓reduceIte]; done) | assumption | (simp (disch := omega) only [hg_ne, hg_eq, hgs_ne, *]; done) | (simp only [LAWSm]; done) | with_unfolding_all rfl) only [unf b15_0.eq_1, c15, this, LAWSm, EVS, Nat.reduceAdd, Nat.reduceSub, Int.reduceToNat, Nat.reduceMul, Nat.reduceEqDiff, Nat.reduceLeDiff, Int.reduceEq, Int.reduceLT, Int.reduceLE, ↓reduceIte]
  repeat' (refine Ok_if (fun hb => ?_) (fun hb => ?_) <;> have h := hb <;> (try simp only [decide_eq_true_eq, decide_eq_false_iff_not, Int.not_lt, Int.not_le] at h) <;> (simp (disch := first | omega | (simp only [EVL] <;> omega) | (simp only [hget_c, Nat.reduceEqDiff, ↓reduceIte]; done) | assumption | (simp (disch := omega) only [hg_ne, hg_eq, hgs_ne, *]; done) | (simp only [LAWSm]; done) | with_unfolding_all rfl) only [hb, c15, LAWSm, gd_m, toNat_sub1, EVS, Nat.reduceAdd, Nat.reduceSub, Int.reduceToNat, Nat.reduceMul, Nat.reduceEqDiff, Nat.reduceLeDiff, Int.reduceEq, Int.reduceLT, Int.reduceLE, ↓reduceIte]) <;> (try clear hb))
  all_goals first
   |exact Ok_inL (by decide) (by simp [lowTm, low, lows, LAWSm]) (by simp [cutH, lowHeap, lowObj, lows, low, LAWSm]) (ih (i + 1) (by omega) (upTo hok ⟨by omega, fun _ => by omega⟩))
   |exact chkM_no fun hg => by
     have := hg.2 i (by omega); unfold goodM at this; omega
theorem checkCells_spec (e : Bool) (m : Mem) (h0 : m.length ≤ 9223372036854775807) : ∀ h nx, lim T 15 [.lst e (m.map ceV)] h nx = some (.int .i64 (chkM m), h, nx) := by
 refine lim_iso tg15 rfl rfl (by simp [pures, pure_, pu_m]) ?_
 simp (disch := first | omega | (simp only [EVL] <;> omega) | (simp only [hget_c, Nat.reduceEqDiff, ↓reduceIte]; done) | assumption | (simp (disch := omega) only [hg_ne, hg_eq, hgs_ne, *]; done) | (simp only [LAWSm]; done) | with_unfolding_all rfl) only [c15, LAWSm, EVS, Nat.reduceAdd, Nat.reduceSub, Int.reduceToNat, Nat.reduceMul, Nat.reduceEqDiff, Nat.reduceLeDiff, Int.reduceEq, Int.reduceLT, Int.reduceLE, ↓reduceIte]
 repeat' (refine Ok_if (fun hb => ?_) (fun hb => ?_) <;> have h := hb <;> (try simp only [decide_eq_true_eq, decide_eq_false_iff_not, Int.not_lt, Int.not_le] at h) <;> (simp (disch := first | omega | (simp only [EVL] <;> omega) | (simp only [hget_c, Nat.reduceEqDiff, ↓reduceIte]; done) | assumption | (simp (disch := omega) only [hg_ne, hg_eq, hgs_ne, *]; done) | (simp only [LAWSm]; done) | with_unfolding_all rfl) only [hb, c15, LAWSm, EVS, Nat.reduceAdd, Nat.reduceSub, Int.reduceToNat, Nat.reduceMul, Nat.reduceEqDiff, Nat.reduceLeDiff, Int.reduceEq, Int.reduceLT, Int.reduceLE, ↓reduceIte]) <;> (try clear hb))
 ·exact chkM_no fun hg => by have := hg.1; omega
 ·exact checkCells_loop e m (by omega) m.length 0 (by omega) (by omega)
theorem cmpC_spec (a b c : Int) : ∀ h nx, lim T 82 [.agg [.int .u64 a, .int .u8 b], .int .u64 c] h nx = some (.int .i64 (if a < c then -1 else if c < a then 1 else 0), h, nx) := by
 refine lim_iso tg82 rfl rfl rfl ?_
 simp (disch := first | omega | (simp only [EVL] <;> omega) | (simp only [hget_c, Nat.reduceEqDiff, ↓reduceIte]; done) | assumption | (simp (disch := omega) only [hg_ne, hg_eq, hgs_ne, *]; done) | (simp only [LAWSm]; done) | with_unfolding_all rfl) only [c82, EVS, Nat.reduceAdd, Nat.reduceSub, Int.reduceToNat, Nat.reduceMul, Nat.reduceEqDiff, Nat.reduceLeDiff, Int.reduceEq, Int.reduceLT, Int.reduceLE, ↓reduceIte]
 repeat' (refine Ok_if (fun hb => ?_) (fun hb => ?_) <;> have h := hb <;> (try simp only [decide_eq_true_eq, decide_eq_false_iff_not, Int.not_lt, Int.not_le] at h) <;> (simp (disch := first | omega | (simp only [EVL] <;> omega) | (simp only [hget_c, Nat.reduceEqDiff, ↓reduceIte]; done) | assumption | (simp (disch := omega) only [hg_ne, hg_eq, hgs_ne, *]; done) | (simp only [LAWSm]; done) | with_unfolding_all rfl) only [hb, c82, EVS, Nat.reduceAdd, Nat.reduceSub, Int.reduceToNat, Nat.reduceMul, Nat.reduceEqDiff, Nat.reduceLeDiff, Int.reduceEq, Int.reduceLT, Int.reduceLE, ↓reduceIte]) <;> (try clear hb))
 all_goals ((repeat' split) <;> first | rfl | omega)
def lbM (m : Mem) (a : Int) : Nat := (m.takeWhile fun p => decide (p.1 < a)).length
theorem lbM_le (m : Mem) (a : Int) : lbM m a ≤ m.length := (List.takeWhile_prefix _).length_le
theorem sorted_lt {m : Mem} (h : ∀ i, i < m.length → goodM m i) : ∀ (k i : Nat), i + k + 1 < m.length → (m.getD i (0, 0)).1 < (m.getD (i + k + 1) (0, 0)).1 := by
 intro k
 induction k with
 |zero => intro i hi; have := (h (i + 1) (by omega)).2 (by omega); simpa using this
 |succ k ih =>
  intro i hi
  have h1 := ih i (by omega)
  have h2 := (h (i + (k + 1) + 1) (by omega)).2 (by omega)
  have e : i + (k + 1) + 1 - 1 = i + k + 1 := by omega
  rw [e] at h2
  omega
theorem lb_below : ∀ (m : Mem) (a : Int) (i : Nat), i < lbM m a → (m.getD i (0, 0)).1 < a := by
 intro m
 induction m with
 |nil => intro a i h; simp [lbM] at h
 |cons p m ih =>
  intro a i h
  by_cases hp : p.1 < a
  ·cases i with
   |zero => simpa using hp
   |succ i =>
    have : i < lbM m a := by simp [lbM, List.takeWhile_cons, hp] at h; simpa [lbM] using h
    simpa using ih a i this
  ·simp [lbM, List.takeWhile_cons, hp] at h
theorem lb_at : ∀ (m : Mem) (a : Int), lbM m a < m.length → a ≤ (m.getD (lbM m a) (0, 0)).1 := by
 intro m
 induction m with
 |nil => intro a h; simp at h
 |cons p m ih =>
  intro a h
  by_cases hp : p.1 < a
  ·have e : lbM (p :: m) a = lbM m a + 1 := by simp [lbM, List.takeWhile_cons, hp]
   rw [e] at h ⊢
   simpa using ih a (by simpa using h)
  ·have e : lbM (p :: m) a = 0 := by simp [lbM, List.takeWhile_cons, hp]
   rw [e]; simp; omega
theorem lb_lt_iff {m : Mem} (hs : ∀ i, i < m.length → goodM m i) (a : Int) (i : Nat) (hi : i < m.length) : (m.getD i (0, 0)).1 < a ↔ i < lbM m a := by
 constructor
 ·intro h
  rcases Nat.lt_or_ge i (lbM m a) with h1 | h1
  ·exact h1
  ·exfalso
   have h2 := lb_at m a (by omega)
   rcases Nat.eq_or_lt_of_le h1 with h3 | h3
   ·rw [h3] at h2; omega
   ·have := sorted_lt hs (i - lbM m a - 1) (lbM m a) (by omega)
    rw [show lbM m a + (i - lbM m a - 1) + 1 = i by omega] at this
    omega
 ·exact lb_below m a i
def foundM (m : Mem) (a : Int) : Bool := decide (lbM m a < m.length ∧ (m.getD (lbM m a) (0, 0)).1 = a)
theorem half_nat (i j : Nat) (h : i + j ≤ 1000000) : shr .u64 ((i : Int) + (j : Int)) 1 = (((i + j) / 2 : Nat) : Int) := by
 rw [show (1 : Int) = ((1 : Nat) : Int) from rfl, shr_nat (by omega) (by omega), Nat.shiftRight_eq_div_pow]
 omega
theorem bsC_loop (e : Bool) (m : Mem) (a : Int) (hs : memS m) : ∀ (k i j : Nat), j - i ≤ k → i ≤ lbM m a → lbM m a ≤ j → j ≤ m.length →
  @Ok Out (runs T [.code b81_0, .inL (some 8) b81_0, .inB 0, .code k81_1] [(0, .lst e (m.map ceV)), (1, .int .u64 a), (2, .fn 82 []), (8, .int .i64 m.length), (9, .int .i64 i), (10, .int .i64 j)] [] 8) ⟨fun x => resV c81.res x = some (.tup [.int .i64 (lbM m a), .bool (foundM m a)])⟩ := by
 obtain ⟨h1, h2⟩ := hs
 intro k
 induction k with
 |zero =>
  intro i j hk hi hj hm
  have e : i = lbM m a := by omega
  have : ¬ (i : Int) < j := by omega
  simp (disch := first | omega | (simp only [EVL] <;> omega) | (simp only [hget_c, Nat.reduceEqDiff, ↓reduceIte]; done) | assumption | (simp (disch := omega) only [hg_ne, hg_eq, hgs_ne, *]; done) | (simp only [LAWSm]; done) | with_unfolding_all rfl) only [unf b81_0.eq_1, unf k81_1.eq_1, c81, this, LAWSm, EVS, Nat.reduceAdd, Nat.reduceSub, Int.reduceToNat, Nat.reduceMul, Nat.reduceEqDiff, Nat.reduceLeDiff, Int.reduceEq, Int.reduceLT, Int.reduceLE, ↓reduceIte]
  repeat' (refine Ok_if (fun hb => ?_) (fun hb => ?_) <;> have h := hb <;> (try simp only [decide_eq_true_eq, decide_eq_false_iff_not, Int.not_lt, Int.not_le] at h) <;> (simp (disch := first | omega | (simp only [EVL] <;> omega) | (simp only [hget_c, Nat.reduceEqDiff, ↓reduceIte]; done) | assumption | (simp (disch := omega) only [hg_ne, hg_eq, hgs_ne, *]; done) | (simp only [LAWSm]; done) | with_unfolding_all rfl) only [hb, c81, LAWSm, gd_m, cmpC_spec, EVS, Nat.reduceAdd, Nat.reduceSub, Int.reduceToNat, Nat.reduceMul, Nat.reduceEqDiff, Nat.reduceLeDiff, Int.reduceEq, Int.reduceLT, Int.reduceLE, ↓reduceIte]) <;> (try clear hb))
  ·rw [← e]
   congr 2; simp only [List.cons.injEq, FV.bool.injEq, and_true, true_and]
   unfold foundM
   refine decide_eq_decide.2 ?_
   rw [← e]
   constructor
   ·intro hx
    refine ⟨by omega, ?_⟩
    split at hx
    ·omega
    ·split at hx <;> omega
   ·rintro ⟨_, hx⟩; rw [if_neg (by omega), if_neg (by omega)]
  ·rw [e]
   congr 2; simp only [List.cons.injEq, FV.bool.injEq, and_true, true_and]
   exact (decide_eq_false fun hx => by have := hx.1; omega).symm
 |succ k ih =>
  intro i j hk hi hj hm
  by_cases hij : i < j
  ·have : (i : Int) < j := by omega
   have hh := half_nat i j (by omega)
   have hc := lb_lt_iff h2 a ((i + j) / 2) (by omega)
   simp (disch := first | omega | (simp only [EVL] <;> omega) | (simp only [hget_c, Nat.reduceEqDiff, ↓reduceIte]; done) | assumption | (simp (disch := omega) only [hg_ne, hg_eq, hgs_ne, *]; done) | (simp only [LAWSm]; done) | with_unfolding_all rfl) only [unf b81_0.eq_1, c81, this, LAWSm, hh, cmpC_spec, EVS, Nat.reduceAdd, Nat.reduceSub, Int.reduceToNat, Nat.reduceMul, Nat.reduceEqDiff, Nat.reduceLeDiff, Int.reduceEq, Int.reduceLT, Int.reduceLE, ↓reduceIte]
   repeat' (refine Ok_if (fun hb => ?_) (fun hb => ?_) <;> have h := hb <;> (try simp only [decide_eq_true_eq, decide_eq_false_iff_not, Int.not_lt, Int.not_le] at h) <;> (simp (disch := first | omega | (simp only [EVL] <;> omega) | (simp only [hget_c, Nat.reduceEqDiff, ↓reduceIte]; done) | assumption | (simp (disch := omega) only [hg_ne, hg_eq, hgs_ne, *]; done) | (simp only [LAWSm]; done) | with_unfolding_all rfl) only [hb, c81, LAWSm, gd_m, cmpC_spec, EVS, Nat.reduceAdd, Nat.reduceSub, Int.reduceToNat, Nat.reduceMul, Nat.reduceEqDiff, Nat.reduceLeDiff, Int.reduceEq, Int.reduceLT, Int.reduceLE, ↓reduceIte]) <;> (try clear hb))
   ·have : (m.getD ((i + j) / 2) (0, 0)).1 < a := by
     rcases Int.lt_or_le (m.getD ((i + j) / 2) (0, 0)).1 a with h0 | h0
     ·exact h0
     ·rw [if_neg (by omega)] at h; split at h <;> omega
    exact Ok_inL (by decide) (by simp [lowTm, low, lows, LAWSm]) (by simp [cutH, lowHeap, lowObj, lows, low, LAWSm]) (ih ((i + j) / 2 + 1) j (by omega) (by omega) hj hm)
   ·have : ¬ (m.getD ((i + j) / 2) (0, 0)).1 < a := fun h0 => by
     rw [if_pos h0] at h; omega
    exact Ok_inL (by decide) (by simp [lowTm, low, lows, LAWSm]) (by simp [cutH, lowHeap, lowObj, lows, low, LAWSm]) (ih i ((i + j) / 2) (by omega) hi (by omega) (by omega))
  ·exact ih i j (by omega) hi hj hm
theorem bsC_spec (e : Bool) (m : Mem) (a : Int) (hs : memS m) : ∀ h nx, lim T 81 [.lst e (m.map ceV), .int .u64 a, .fn 82 []] h nx = some (.tup [.int .i64 (lbM m a), .bool (foundM m a)], h, nx) := by
 have h1 := hs.1
 refine lim_iso tg81 rfl rfl (by simp [pures, pure_, pu_m]) ?_
 simp (disch := first | omega | (simp only [EVL] <;> omega) | (simp only [hget_c, Nat.reduceEqDiff, ↓reduceIte]; done) | assumption | (simp (disch := omega) only [hg_ne, hg_eq, hgs_ne, *]; done) | (simp only [LAWSm]; done) | with_unfolding_all rfl) only [c81, LAWSm, EVS, Nat.reduceAdd, Nat.reduceSub, Int.reduceToNat, Nat.reduceMul, Nat.reduceEqDiff, Nat.reduceLeDiff, Int.reduceEq, Int.reduceLT, Int.reduceLE, ↓reduceIte]
 exact bsC_loop e m a hs m.length 0 m.length (by omega) (by omega) (lbM_le m a) (by omega)
def byteS (m : Mem) (a : Int) : Int := if foundM m a = true then (m.getD (lbM m a) (0, 0)).2 else 0
def addrS (w at_ : Int) (i : Nat) : Int := (at_ + i) % 18446744073709551616 % 2 ^ w.toNat
def ldS (m : Mem) (w at_ : Int) : Nat → Nat
 |0 => 0
 |i + 1 => ldS m w at_ i ||| (byteS m (addrS w at_ i)).toNat <<< (8 * i)
def okM (m : Mem) : Prop := ∀ p ∈ m, 0 ≤ p.1 ∧ p.1 < 18446744073709551616 ∧ 0 ≤ p.2 ∧ p.2 < 256
theorem byteS_bd {m : Mem} (h : okM m) (a : Int) : 0 ≤ byteS m a ∧ byteS m a < 256 := by
 unfold byteS
 split
 ·rename_i hf
  unfold foundM at hf
  have := h _ (getD_mem (d := (0, 0)) (of_decide_eq_true hf).1)
  omega
 ·omega
theorem ldS_lt {m : Mem} (h : okM m) (w at_ : Int) : ∀ n, ldS m w at_ n < 2 ^ (8 * n) := by
 intro n
 induction n with
 |zero => simp [ldS]
 |succ n ih =>
  have hb := byteS_bd h (addrS w at_ n)
  simp only [ldS]
  refine Nat.or_lt_two_pow (Nat.lt_of_lt_of_le ih (Nat.pow_le_pow_right (by decide) (by omega))) ?_
  rw [Nat.shiftLeft_eq, show 8 * (n + 1) = 8 + 8 * n by omega, Nat.pow_add]
  exact Nat.mul_lt_mul_of_pos_right (by omega) (Nat.pow_pos (by decide))
theorem loaded_loop (e : Bool) (m : Mem) (w at_ : Int) (n : Nat) (hs : memS m) (hm : okM m) (hw : 1 ≤ w) (hw' : w ≤ 64) (ha : 0 ≤ at_) (ha' : at_ < 18446744073709551616) (hn : n ≤ 8) : ∀ (k i : Nat), i + k = n →
  @Ok Out (runs T [.code b50_0, .inL (some 5) b50_0, .inB 0, .code k50_1] [(0, .lst e (m.map ceV)), (1, .int .i64 w), (2, .int .u64 at_), (9, .int .u64 (ldS m w at_ i : Nat)), (15, .int .i64 n), (16, .int .i64 i)] [] 5) ⟨fun x => resV c50.res x = some (.int .u64 (ldS m w at_ n : Nat))⟩ := by
 obtain ⟨h1, h2⟩ := hs
 intro k
 induction k with
 |zero =>
  intro i hi
  have : ¬ (i : Int) < n := by omega
  simp (disch := first | omega | (simp only [EVL] <;> omega) | (simp only [hget_c, Nat.reduceEqDiff, ↓reduceIte]; done) | assumption | (simp (disch := omega) only [hg_ne, hg_eq, hgs_ne, *]; done) | (simp only [LAWSm]; done) | with_unfolding_all rfl) only [unf b50_0.eq_1, unf k50_1.eq_1, c50, this, LAWSm, EVS, Nat.reduceAdd, Nat.reduceSub, Int.reduceToNat, Nat.reduceMul, Nat.reduceEqDiff, Nat.reduceLeDiff, Int.reduceEq, Int.reduceLT, Int.reduceLE, ↓reduceIte]
  rw [show i = n by omega]
 |succ k ih =>
  intro i hi
  have : (i : Int) < n := by omega
  have hw1 : IntKind.u64.wrap i = i := by rw [wrapu (by omega)]; omega
  have hw2 : IntKind.u64.wrap (at_ + i) = (at_ + i) % 18446744073709551616 := wrapu (by omega)
  have hm1 := band_mask (a := (at_ + i) % 18446744073709551616) (n := w.toNat) (by omega) (by omega) (by omega)
  have hb := bsC_spec e m (addrS w at_ i) ⟨h1, h2⟩
  unfold addrS at hb
  have hbd := byteS_bd hm (addrS w at_ i)
  have hbv : byteS m (addrS w at_ i) = if foundM m (addrS w at_ i) = true then (m.getD (lbM m (addrS w at_ i)) (0, 0)).2 else 0 := rfl
  have hlt := ldS_lt hm w at_ i
  have hp8 : (2 : Nat) ^ (8 * i) ≤ 2 ^ 56 := Nat.pow_le_pow_right (by decide) (by omega)
  have hsl := shl_nat (a := byteS m (addrS w at_ i)) (n := 8 * i) hbd.1 (by omega) (by
   have h8 : ((2 : Int) ^ (8 * i)) ≤ 2 ^ 56 := pow_le (by omega)
   have := Int.mul_le_mul (show byteS m (addrS w at_ i) ≤ 255 by omega) h8 (by have := pow_pos' (8 * i); omega) (by decide)
   omega)
  have hls : ldS m w at_ (i + 1) = ldS m w at_ i ||| (byteS m (addrS w at_ i)).toNat <<< (8 * i) := rfl
  have hl2 := ldS_lt hm w at_ (i + 1)
  have hq8 : (2 : Nat) ^ (8 * (i + 1)) ≤ 2 ^ 64 := Nat.pow_le_pow_right (by decide) (by omega)
  have hs2 : (byteS m (addrS w at_ i)).toNat <<< (8 * i) ≤ ldS m w at_ (i + 1) := by rw [hls]; exact Nat.right_le_or
  have hor := bor_nat (a := (ldS m w at_ i : Nat)) (b := ((byteS m (addrS w at_ i)).toNat <<< (8 * i) : Nat)) (by omega) (by omega) (Int.natCast_nonneg _) (by omega)
  simp only [Int.toNat_natCast, ← hls] at hor
  rw [← hsl] at hor
  simp only [Int.natCast_mul, Int.cast_ofNat_Int] at hor
  cases hf : foundM m (addrS w at_ i) with
  |true =>
   have hlm : lbM m (addrS w at_ i) < m.length := by unfold foundM at hf; exact (of_decide_eq_true hf).1
   rw [if_pos hf] at hbv
   rw [hbv] at hor hbd
   unfold addrS at hor hbd hf hlm
   simp (disch := first | omega | (simp only [EVL] <;> omega) | (simp only [hget_c, Nat.reduceEqDiff, ↓reduceIte]; done) | assumption | (simp (disch := omega) only [hg_ne, hg_eq, hgs_ne, *]; done) | (simp only [LAWSm]; done) | with_unfolding_all rfl) only [unf b50_0.eq_1, c50, this, LAWSm, mask_spec' w hw hw', hw1, hw2, hm1, hb, hf, hlm, gd_m, hor, EVS, Nat.reduceAdd, Nat.reduceSub, Int.reduceToNat, Nat.reduceMul, Nat.reduceEqDiff, Nat.reduceLeDiff, Int.reduceEq, Int.reduceLT, Int.reduceLE, ↓reduceIte]
   exact Ok_inL (by decide) (by simp [lowTm, low, lows, LAWSm]) (by simp [cutH, lowHeap, lowObj, lows, low, LAWSm]) (ih (i + 1) (by omega))
  |false =>
   rw [if_neg (by simp [hf])] at hbv
   have heq : ldS m w at_ (i + 1) = ldS m w at_ i := by rw [hls, hbv]; simp
   have hih := ih (i + 1) (by omega)
   rw [heq] at hih
   unfold addrS at hf
   simp (disch := first | omega | (simp only [EVL] <;> omega) | (simp only [hget_c, Nat.reduceEqDiff, ↓reduceIte]; done) | assumption | (simp (disch := omega) only [hg_ne, hg_eq, hgs_ne, *]; done) | (simp only [LAWSm]; done) | with_unfolding_all rfl) only [unf b50_0.eq_1, c50, this, LAWSm, mask_spec' w hw hw', hw1, hw2, hm1, hb, hf, EVS, Nat.reduceAdd, Nat.reduceSub, Int.reduceToNat, Nat.reduceMul, Nat.reduceEqDiff, Nat.reduceLeDiff, Int.reduceEq, Int.reduceLT, Int.reduceLE, ↓reduceIte]
   exact Ok_inL (by decide) (by simp [lowTm, low, lows, LAWSm]) (by simp [cutH, lowHeap, lowObj, lows, low, LAWSm]) (hih)
theorem loaded_spec (e : Bool) (m : Mem) (w at_ : Int) (n : Nat) (hs : memS m) (hm : okM m) (hw : 1 ≤ w) (hw' : w ≤ 64) (ha : 0 ≤ at_) (ha' : at_ < 18446744073709551616) (hn : n ≤ 64) : ∀ h nx, lim T 50 [.lst e (m.map ceV), .int .i64 w, .int .u64 at_, .int .i64 n] h nx = some (.int .u64 (ldS m w at_ (n / 8) : Nat), h, nx) := by
 refine lim_iso tg50 rfl rfl (by simp [pures, pure_, pu_m]) ?_
 simp (disch := first | omega | (simp only [EVL] <;> omega) | (simp only [hget_c, Nat.reduceEqDiff, ↓reduceIte]; done) | assumption | (simp (disch := omega) only [hg_ne, hg_eq, hgs_ne, *]; done) | (simp only [LAWSm]; done) | with_unfolding_all rfl) only [c50, LAWSm, tdiv_nn, EVS, Nat.reduceAdd, Nat.reduceSub, Int.reduceToNat, Nat.reduceMul, Nat.reduceEqDiff, Nat.reduceLeDiff, Int.reduceEq, Int.reduceLT, Int.reduceLE, ↓reduceIte]
 exact loaded_loop e m w at_ (n / 8) hs hm hw hw' ha ha' (by omega) (n / 8) 0 (by omega)
open Classical in
noncomputable def loadS (m : Mem) (w at_ : Int) (n : Nat) : FV :=
 if memS m then if (1 ≤ w ∧ w ≤ 64) ∧ loadsS n then if okS w at_ then .tup [.int .u64 (ldS m w at_ (n / 8) : Nat), .int .i64 0] else .tup [.int .u64 0, .int .i64 8] else .tup [.int .u64 0, .int .i64 14] else .tup [.int .u64 0, .int .i64 8]
theorem load_spec (e : Bool) (m : Mem) (w at_ : Int) (n : Nat) (hm : okM m) (h0 : m.length ≤ 9223372036854775807) (ha : 0 ≤ at_) (ha' : at_ < 18446744073709551616) : ∀ h nx, lim T 13 [.lst e (m.map ceV), .int .i64 w, .int .u64 at_, .int .i64 n] h nx = some (loadS m w at_ n, h, nx) := by
  have c1 := checkCells_spec e m h0
  refine lim_iso tg13 rfl rfl (by simp [pures, pure_, pu_m]) ?_
  simp (disch := first | omega | (simp only [EVL] <;> omega) | (simp only [hget_c, Nat.reduceEqDiff, ↓reduceIte]; done) | assumption | (simp (disch := omega) only [hg_ne, hg_eq, hgs_ne, *]; done) | (simp only [LAWSm]; done) | with_unfolding_all rfl) only [c13, LAWSm, c1, EVS, Nat.reduceAdd, Nat.reduceSub, Int.reduceToNat, Nat.reduceMul, Nat.reduceEqDiff, Nat.reduceLeDiff, Int.reduceEq, Int.reduceLT, Int.reduceLE, ↓reduceIte]
  repeat' (refine Ok_if (fun hb => ?_) (fun hb => ?_) <;> have h := hb <;> (try simp only [decide_eq_true_eq, decide_eq_false_iff_not, Int.not_lt, Int.not_le] at h) <;> (simp (disch := first | omega | (simp only [EVL] <;> omega) | (simp only [hget_c, Nat.reduceEqDiff, ↓reduceIte]; done) | assumption | (simp (disch := omega) only [hg_ne, hg_eq, hgs_ne, *]; done) | (simp only [LAWSm]; done) | with_unfolding_all rfl) only [hb, c13, LAWSm, wideT_spec, loadable_spec, okB_spec, EVS, Nat.reduceAdd, Nat.reduceSub, Int.reduceToNat, Nat.reduceMul, Nat.reduceEqDiff, Nat.reduceLeDiff, Int.reduceEq, Int.reduceLT, Int.reduceLE, ↓reduceIte]) <;> (try clear hb))
  all_goals first
    | (have hmS : memS m := by
        unfold chkM at *
        by_cases hh : memS m
        · exact hh
        · simp_all)
    | (have hmS : ¬ memS m := by
        intro hh
        unfold chkM at *
        simp_all)
  · rename_i hq1 hq2 hq3 
    have h64 : n ≤ 64 := by unfold loadsS at hq3; omega
    have c2 := loaded_spec e m w at_ n hmS hm hq2.1 hq2.2 ha ha' h64
    simp (disch := first | omega | (simp only [EVL] <;> omega) | (simp only [hget_c, Nat.reduceEqDiff, ↓reduceIte]; done) | assumption | (simp (disch := omega) only [hg_ne, hg_eq, hgs_ne, *]; done) | (simp only [LAWSm]; done) | with_unfolding_all rfl) only [c13, LAWSm, c2, EVS, Nat.reduceAdd, Nat.reduceSub, Int.reduceToNat, Nat.reduceMul, Nat.reduceEqDiff, Nat.reduceLeDiff, Int.reduceEq, Int.reduceLT, Int.reduceLE, ↓reduceIte]
    simp [loadS, hmS, hq2, hq3, h]
  · simp_all [loadS]
  · simp_all [loadS]
  · simp only [loadS, if_pos hmS]
    rw [if_neg (by intro hq; exact h hq.1)]
  · simp_all [loadS, chkM]

theorem bcheck_loop (n : Nat) (h1 : 1 ≤ n) (h2 : n ≤ 64) (e : Bool) (L : List Nat) (hL : ∀ x ∈ L, x < 2 ^ n) (hl : L.length ≤ 10) : ∀ (k i : Nat), i + k = L.length →
  @Ok Out (runs T [.code b59_0, .inL (some 7) b59_0, .inB 0, .code k59_1] [(0, .int .i64 n), (10, .lst e (L.map fun x : Nat => .int .u64 x)), (11, .int .i64 L.length), (12, .int .i64 i)] [] 7) ⟨fun x => finV c59.res x = some (.int .i64 0)⟩ := by
 have hm := mask_spec' n (by omega) (by omega)
 intro k
 induction k with
 |zero =>
  intro i hi
  have : ¬ (i : Int) < L.length := by omega
  simp (disch := first | omega | (simp only [EVL] <;> omega) | (simp only [hget_c, Nat.reduceEqDiff, ↓reduceIte]; done) | assumption | (simp (disch := omega) only [hg_ne, hg_eq, hgs_ne, *]; done) | (simp only [TL]; done) | with_unfolding_all rfl) only [unf b59_0.eq_1, unf k59_1.eq_1, c59, this, EVS, Nat.reduceAdd, Nat.reduceSub, Int.reduceToNat, Nat.reduceMul, Nat.reduceEqDiff, Nat.reduceLeDiff, Int.reduceEq, Int.reduceLT, Int.reduceLE, ↓reduceIte]
 |succ k ih =>
  intro i hi
  have : (i : Int) < L.length := by omega
  have hgd : (L.map fun x : Nat => FV.int .u64 x).getD i .undef = .int .u64 ((L.getD i 0 : Nat) : Int) := by simp [List.getD, show i < L.length by omega]
  have hx : ¬ ((2 : Int) ^ n - 1) < ((L.getD i 0 : Nat) : Int) := by
   have h3 := hL _ (getD_mem (d := 0) (show i < L.length by omega))
   have h4 := pow_nat n
   omega
  have hd : decide (((2 : Int) ^ n - 1) < ((L.getD i 0 : Nat) : Int)) = false := decide_eq_false hx
  have hp : pures (L.map fun x : Nat => FV.int .u64 x) = true := pures_map (fun _ => rfl) _
  have hlo : lows 7 (L.map fun x : Nat => FV.int .u64 x) = true := lows_map (fun _ => rfl) _
  have e1 : (((n : Nat) : Int)).toNat = n := by omega
  rw [e1] at hm
  simp (disch := first | omega | (simp only [EVL] <;> omega) | (simp only [hget_c, Nat.reduceEqDiff, ↓reduceIte]; done) | assumption | (simp (disch := omega) only [hg_ne, hg_eq, hgs_ne, *]; done) | (simp only [TL]; done) | with_unfolding_all rfl) only [unf b59_0.eq_1, c59, this, hgd, hm, hd, EVS, Nat.reduceAdd, Nat.reduceSub, Int.reduceToNat, Nat.reduceMul, Nat.reduceEqDiff, Nat.reduceLeDiff, Int.reduceEq, Int.reduceLT, Int.reduceLE, ↓reduceIte]
  exact Ok_inL (by decide) (by simp [lowTm, low, hlo]) (by simp [cutH, lowHeap]) (ih (i + 1) (by omega))
theorem bcheck_spec (n : Nat) (h1 : 1 ≤ n) (h2 : n ≤ 64) (e : Bool) (L : List Nat) (hL : ∀ x ∈ L, x < 2 ^ n) (hl : L.length ≤ 10) (h : Heap) (nx : Nat) : isfR T c59 [.int .i64 n, .lst e (L.map fun x : Nat => .int .u64 x)] h nx = some (.int .i64 0, h, nx) := by
 refine isfR_of rfl ?_
 have hw : decide ((1 : Int) ≤ n ∧ (n : Int) ≤ 64) = true := decide_eq_true (by omega)
 simp (disch := first | omega | (simp only [EVL] <;> omega) | (simp only [hget_c, Nat.reduceEqDiff, ↓reduceIte]; done) | assumption | (simp (disch := omega) only [hg_ne, hg_eq, hgs_ne, *]; done) | (simp only [TL]; done) | with_unfolding_all rfl) only [c59, wideB_spec, hw, EVS, Nat.reduceAdd, Nat.reduceSub, Int.reduceToNat, Nat.reduceMul, Nat.reduceEqDiff, Nat.reduceLeDiff, Int.reduceEq, Int.reduceLT, Int.reduceLE, ↓reduceIte]
 exact bcheck_loop n h1 h2 e L hL hl L.length 0 (by omega)
theorem bcheck_lim (a b : FV) (h : Heap) (nx : Nat) : lim T 59 [a, b] h nx = @FI.B (List FV) (FV × Heap × Nat) (frzs h deep [a, b]) ⟨fun q => isfR T c59 q h nx⟩ := lim_isf tg59 rfl rfl
theorem bcheck1 (n a : Nat) (h1 : 1 ≤ n) (h2 : n ≤ 64) (ha : a < 2 ^ n) (e : Bool) (h : Heap) (nx : Nat) : isfR T c59 [.int .i64 n, .lst e [.int .u64 a]] h nx = some (.int .i64 0, h, nx) := bcheck_spec n h1 h2 e [a] (by simpa using ha) (by simp) h nx
theorem bcheck2 (n a b : Nat) (h1 : 1 ≤ n) (h2 : n ≤ 64) (ha : a < 2 ^ n) (hb : b < 2 ^ n) (e : Bool) (h : Heap) (nx : Nat) : isfR T c59 [.int .i64 n, .lst e [.int .u64 a, .int .u64 b]] h nx = some (.int .i64 0, h, nx) := bcheck_spec n h1 h2 e [a, b] (by simp [ha, hb]) (by simp) h nx
theorem signed_spec (n a : Nat) (h1 : 1 ≤ n) (h2 : n ≤ 64) (ha : a < 2 ^ n) : ∀ h nx, lim T 60 [.int .i64 n, .int .u64 a] h nx = some (.int .i64 (toI n a), h, nx) := by
 have hx := X_sgn h1 h2 ha
 refine lim_iso tg60 rfl rfl rfl ?_
 simp (disch := first | omega | (simp only [EVL] <;> omega) | (simp only [hget_c, Nat.reduceEqDiff, ↓reduceIte]; done) | assumption | (simp (disch := omega) only [hg_ne, hg_eq, hgs_ne, *]; done) | (simp only [TL]; done) | with_unfolding_all rfl) only [c60, hx, EVS, Nat.reduceAdd, Nat.reduceSub, Int.reduceToNat, Nat.reduceMul, Nat.reduceEqDiff, Nat.reduceLeDiff, Int.reduceEq, Int.reduceLT, Int.reduceLE, ↓reduceIte]
theorem few_spec (b : Nat) : ∀ h nx, lim T 96 [.int .u64 b] h nx = some (.int .u64 (min (b : Int) 64), h, nx) := by
 refine lim_iso tg96 rfl rfl rfl ?_
 simp (disch := first | omega | (simp only [EVL] <;> omega) | (simp only [hget_c, Nat.reduceEqDiff, ↓reduceIte]; done) | assumption | (simp (disch := omega) only [hg_ne, hg_eq, hgs_ne, *]; done) | (simp only [TL]; done) | with_unfolding_all rfl) only [c96, EVS, Nat.reduceAdd, Nat.reduceSub, Int.reduceToNat, Nat.reduceMul, Nat.reduceEqDiff, Nat.reduceLeDiff, Int.reduceEq, Int.reduceLT, Int.reduceLE, ↓reduceIte]
theorem one_spec (c : Bool) : ∀ h nx, lim T 102 [.bool c] h nx = some (.int .u64 (if c = true then 1 else 0), h, nx) := by
 refine lim_iso tg102 rfl rfl rfl ?_
 cases c <;> simp (disch := first | omega | (simp only [EVL] <;> omega) | (simp only [hget_c, Nat.reduceEqDiff, ↓reduceIte]; done) | assumption | (simp (disch := omega) only [hg_ne, hg_eq, hgs_ne, *]; done) | (simp only [TL]; done) | with_unfolding_all rfl) only [c102, EVS, Nat.reduceAdd, Nat.reduceSub, Int.reduceToNat, Nat.reduceMul, Nat.reduceEqDiff, Nat.reduceLeDiff, Int.reduceEq, Int.reduceLT, Int.reduceLE, ↓reduceIte]

section
variable (n a b : Nat) (w : FV)
theorem op1_spec : ∀ h nx, lim T 89 [.int .i64 n, .int .u64 a, .int .u64 b] h nx = some (.int .u64 (IntKind.u64.wrap ((a : Int) + b)), h, nx) := by
 refine lim_iso tg89 rfl rfl rfl ?_
 simp (disch := first | omega | (simp only [EVL] <;> omega) | (simp only [hget_c, Nat.reduceEqDiff, ↓reduceIte]; done) | assumption | (simp (disch := omega) only [hg_ne, hg_eq, hgs_ne, *]; done) | (simp only [TL]; done) | with_unfolding_all rfl) only [c89, EVS, Nat.reduceAdd, Nat.reduceSub, Int.reduceToNat, Nat.reduceMul, Nat.reduceEqDiff, Nat.reduceLeDiff, Int.reduceEq, Int.reduceLT, Int.reduceLE, ↓reduceIte]
theorem op2_spec : ∀ h nx, lim T 90 [.int .i64 n, .int .u64 a, .int .u64 b] h nx = some (.int .u64 (IntKind.u64.wrap ((a : Int) - b)), h, nx) := by
 refine lim_iso tg90 rfl rfl rfl ?_
 simp (disch := first | omega | (simp only [EVL] <;> omega) | (simp only [hget_c, Nat.reduceEqDiff, ↓reduceIte]; done) | assumption | (simp (disch := omega) only [hg_ne, hg_eq, hgs_ne, *]; done) | (simp only [TL]; done) | with_unfolding_all rfl) only [c90, EVS, Nat.reduceAdd, Nat.reduceSub, Int.reduceToNat, Nat.reduceMul, Nat.reduceEqDiff, Nat.reduceLeDiff, Int.reduceEq, Int.reduceLT, Int.reduceLE, ↓reduceIte]
theorem op3_spec : ∀ h nx, lim T 91 [.int .i64 n, .int .u64 a, .int .u64 b] h nx = some (.int .u64 (IntKind.u64.wrap ((a : Int) * b)), h, nx) := by
 refine lim_iso tg91 rfl rfl rfl ?_
 simp (disch := first | omega | (simp only [EVL] <;> omega) | (simp only [hget_c, Nat.reduceEqDiff, ↓reduceIte]; done) | assumption | (simp (disch := omega) only [hg_ne, hg_eq, hgs_ne, *]; done) | (simp only [TL]; done) | with_unfolding_all rfl) only [c91, EVS, Nat.reduceAdd, Nat.reduceSub, Int.reduceToNat, Nat.reduceMul, Nat.reduceEqDiff, Nat.reduceLeDiff, Int.reduceEq, Int.reduceLT, Int.reduceLE, ↓reduceIte]
theorem op4_spec : ∀ h nx, lim T 92 [.int .i64 n, .int .u64 a, .int .u64 b] h nx = some (.int .u64 (band .u64 a b), h, nx) := by
 refine lim_iso tg92 rfl rfl rfl ?_
 simp (disch := first | omega | (simp only [EVL] <;> omega) | (simp only [hget_c, Nat.reduceEqDiff, ↓reduceIte]; done) | assumption | (simp (disch := omega) only [hg_ne, hg_eq, hgs_ne, *]; done) | (simp only [TL]; done) | with_unfolding_all rfl) only [c92, EVS, Nat.reduceAdd, Nat.reduceSub, Int.reduceToNat, Nat.reduceMul, Nat.reduceEqDiff, Nat.reduceLeDiff, Int.reduceEq, Int.reduceLT, Int.reduceLE, ↓reduceIte]
theorem op5_spec : ∀ h nx, lim T 93 [.int .i64 n, .int .u64 a, .int .u64 b] h nx = some (.int .u64 (bor .u64 a b), h, nx) := by
 refine lim_iso tg93 rfl rfl rfl ?_
 simp (disch := first | omega | (simp only [EVL] <;> omega) | (simp only [hget_c, Nat.reduceEqDiff, ↓reduceIte]; done) | assumption | (simp (disch := omega) only [hg_ne, hg_eq, hgs_ne, *]; done) | (simp only [TL]; done) | with_unfolding_all rfl) only [c93, EVS, Nat.reduceAdd, Nat.reduceSub, Int.reduceToNat, Nat.reduceMul, Nat.reduceEqDiff, Nat.reduceLeDiff, Int.reduceEq, Int.reduceLT, Int.reduceLE, ↓reduceIte]
theorem op6_spec : ∀ h nx, lim T 94 [.int .i64 n, .int .u64 a, .int .u64 b] h nx = some (.int .u64 (bxor .u64 a b), h, nx) := by
 refine lim_iso tg94 rfl rfl rfl ?_
 simp (disch := first | omega | (simp only [EVL] <;> omega) | (simp only [hget_c, Nat.reduceEqDiff, ↓reduceIte]; done) | assumption | (simp (disch := omega) only [hg_ne, hg_eq, hgs_ne, *]; done) | (simp only [TL]; done) | with_unfolding_all rfl) only [c94, EVS, Nat.reduceAdd, Nat.reduceSub, Int.reduceToNat, Nat.reduceMul, Nat.reduceEqDiff, Nat.reduceLeDiff, Int.reduceEq, Int.reduceLT, Int.reduceLE, ↓reduceIte]
theorem op7_spec : ∀ h nx, lim T 95 [.int .i64 n, .int .u64 a, .int .u64 b] h nx = some (.int .u64 (shl .u64 a (min (b : Int) 64)), h, nx) := by
 refine lim_iso tg95 rfl rfl rfl ?_
 simp (disch := first | omega | (simp only [EVL] <;> omega) | (simp only [hget_c, Nat.reduceEqDiff, ↓reduceIte]; done) | assumption | (simp (disch := omega) only [hg_ne, hg_eq, hgs_ne, *]; done) | (simp only [TL]; done) | with_unfolding_all rfl) only [c95, few_spec, EVS, Nat.reduceAdd, Nat.reduceSub, Int.reduceToNat, Nat.reduceMul, Nat.reduceEqDiff, Nat.reduceLeDiff, Int.reduceEq, Int.reduceLT, Int.reduceLE, ↓reduceIte]
theorem op8_spec : ∀ h nx, lim T 97 [.int .i64 n, .int .u64 a, .int .u64 b] h nx = some (.int .u64 (shr .u64 a (min (b : Int) 64)), h, nx) := by
 refine lim_iso tg97 rfl rfl rfl ?_
 simp (disch := first | omega | (simp only [EVL] <;> omega) | (simp only [hget_c, Nat.reduceEqDiff, ↓reduceIte]; done) | assumption | (simp (disch := omega) only [hg_ne, hg_eq, hgs_ne, *]; done) | (simp only [TL]; done) | with_unfolding_all rfl) only [c97, few_spec, EVS, Nat.reduceAdd, Nat.reduceSub, Int.reduceToNat, Nat.reduceMul, Nat.reduceEqDiff, Nat.reduceLeDiff, Int.reduceEq, Int.reduceLT, Int.reduceLE, ↓reduceIte]
theorem op10_spec : ∀ h nx, lim T 99 [.int .i64 n, .int .u64 a, .int .u64 b] h nx = some (.int .u64 (if b = 0 then 18446744073709551615 else IntKind.u64.wrap ((a / b : Nat) : Int)), h, nx) := by
 refine lim_iso tg99 rfl rfl rfl ?_
 by_cases hb : b = 0
 ·subst hb
  have z : decide (((0 : Nat) : Int) = 0) = true := rfl
  simp (disch := first | omega | (simp only [EVL] <;> omega) | (simp only [hget_c, Nat.reduceEqDiff, ↓reduceIte]; done) | assumption | (simp (disch := omega) only [hg_ne, hg_eq, hgs_ne, *]; done) | (simp only [TL]; done) | with_unfolding_all rfl) only [c99, z, EVS, Nat.reduceAdd, Nat.reduceSub, Int.reduceToNat, Nat.reduceMul, Nat.reduceEqDiff, Nat.reduceLeDiff, Int.reduceEq, Int.reduceLT, Int.reduceLE, ↓reduceIte]
 ·have z : decide ((b : Int) = 0) = false := decide_eq_false (by omega)
  have z2 : ((b : Int) = 0) = False := eq_false (by omega)
  simp (disch := first | omega | (simp only [EVL] <;> omega) | (simp only [hget_c, Nat.reduceEqDiff, ↓reduceIte]; done) | assumption | (simp (disch := omega) only [hg_ne, hg_eq, hgs_ne, *]; done) | (simp only [TL]; done) | with_unfolding_all rfl) only [c99, z, EVS, Nat.reduceAdd, Nat.reduceSub, Int.reduceToNat, Nat.reduceMul, Nat.reduceEqDiff, Nat.reduceLeDiff, Int.reduceEq, Int.reduceLT, Int.reduceLE, ↓reduceIte]
  rw [if_neg hb, Int.tdiv_eq_ediv_of_nonneg (by omega)]; rfl
theorem op11_spec : ∀ h nx, lim T 100 [.int .i64 n, .int .u64 a, .int .u64 b] h nx = some (.int .u64 (if b = 0 then (a : Int) else ((a % b : Nat) : Int)), h, nx) := by
 refine lim_iso tg100 rfl rfl rfl ?_
 by_cases hb : b = 0
 ·subst hb
  have z : decide (((0 : Nat) : Int) = 0) = true := rfl
  simp (disch := first | omega | (simp only [EVL] <;> omega) | (simp only [hget_c, Nat.reduceEqDiff, ↓reduceIte]; done) | assumption | (simp (disch := omega) only [hg_ne, hg_eq, hgs_ne, *]; done) | (simp only [TL]; done) | with_unfolding_all rfl) only [c100, z, EVS, Nat.reduceAdd, Nat.reduceSub, Int.reduceToNat, Nat.reduceMul, Nat.reduceEqDiff, Nat.reduceLeDiff, Int.reduceEq, Int.reduceLT, Int.reduceLE, ↓reduceIte]
 ·have z : decide ((b : Int) = 0) = false := decide_eq_false (by omega)
  simp (disch := first | omega | (simp only [EVL] <;> omega) | (simp only [hget_c, Nat.reduceEqDiff, ↓reduceIte]; done) | assumption | (simp (disch := omega) only [hg_ne, hg_eq, hgs_ne, *]; done) | (simp only [TL]; done) | with_unfolding_all rfl) only [c100, z, EVS, Nat.reduceAdd, Nat.reduceSub, Int.reduceToNat, Nat.reduceMul, Nat.reduceEqDiff, Nat.reduceLeDiff, Int.reduceEq, Int.reduceLT, Int.reduceLE, ↓reduceIte]
  rw [if_neg hb, Int.tmod_eq_emod_of_nonneg (by omega)]; rfl
theorem op12_spec : ∀ h nx, lim T 101 [.int .i64 n, .int .u64 a, .int .u64 b] h nx = some (.int .u64 (if decide ((a : Int) = b) = true then 1 else 0), h, nx) := by
 refine lim_iso tg101 rfl rfl rfl ?_
 simp (disch := first | omega | (simp only [EVL] <;> omega) | (simp only [hget_c, Nat.reduceEqDiff, ↓reduceIte]; done) | assumption | (simp (disch := omega) only [hg_ne, hg_eq, hgs_ne, *]; done) | (simp only [TL]; done) | with_unfolding_all rfl) only [c101, one_spec, EVS, Nat.reduceAdd, Nat.reduceSub, Int.reduceToNat, Nat.reduceMul, Nat.reduceEqDiff, Nat.reduceLeDiff, Int.reduceEq, Int.reduceLT, Int.reduceLE, ↓reduceIte]
theorem op13_spec : ∀ h nx, lim T 103 [.int .i64 n, .int .u64 a, .int .u64 b] h nx = some (.int .u64 (if decide ((a : Int) < b) = true then 1 else 0), h, nx) := by
 refine lim_iso tg103 rfl rfl rfl ?_
 simp (disch := first | omega | (simp only [EVL] <;> omega) | (simp only [hget_c, Nat.reduceEqDiff, ↓reduceIte]; done) | assumption | (simp (disch := omega) only [hg_ne, hg_eq, hgs_ne, *]; done) | (simp only [TL]; done) | with_unfolding_all rfl) only [c103, one_spec, EVS, Nat.reduceAdd, Nat.reduceSub, Int.reduceToNat, Nat.reduceMul, Nat.reduceEqDiff, Nat.reduceLeDiff, Int.reduceEq, Int.reduceLT, Int.reduceLE, ↓reduceIte]
variable {n a b}
theorem op9_spec (h1 : 1 ≤ n) (h2 : n ≤ 64) (ha : a < 2 ^ n) : ∀ h nx, lim T 98 [.int .i64 n, .int .u64 a, .int .u64 b] h nx = some (.int .u64 (IntKind.u64.wrap (shr .i64 (toI n a) (min (b : Int) 64))), h, nx) := by
 refine lim_iso tg98 rfl rfl rfl ?_
 simp (disch := first | omega | (simp only [EVL] <;> omega) | (simp only [hget_c, Nat.reduceEqDiff, ↓reduceIte]; done) | assumption | (simp (disch := omega) only [hg_ne, hg_eq, hgs_ne, *]; done) | (simp only [TL]; done) | with_unfolding_all rfl) only [c98, few_spec, signed_spec n a h1 h2 ha, EVS, Nat.reduceAdd, Nat.reduceSub, Int.reduceToNat, Nat.reduceMul, Nat.reduceEqDiff, Nat.reduceLeDiff, Int.reduceEq, Int.reduceLT, Int.reduceLE, ↓reduceIte]
theorem op14_spec (h1 : 1 ≤ n) (h2 : n ≤ 64) (ha : a < 2 ^ n) (hb : b < 2 ^ n) : ∀ h nx, lim T 104 [.int .i64 n, .int .u64 a, .int .u64 b] h nx = some (.int .u64 (if decide (toI n a < toI n b) = true then 1 else 0), h, nx) := by
 refine lim_iso tg104 rfl rfl rfl ?_
 simp (disch := first | omega | (simp only [EVL] <;> omega) | (simp only [hget_c, Nat.reduceEqDiff, ↓reduceIte]; done) | assumption | (simp (disch := omega) only [hg_ne, hg_eq, hgs_ne, *]; done) | (simp only [TL]; done) | with_unfolding_all rfl) only [c104, one_spec, signed_spec n a h1 h2 ha, signed_spec n b h1 h2 hb, EVS, Nat.reduceAdd, Nat.reduceSub, Int.reduceToNat, Nat.reduceMul, Nat.reduceEqDiff, Nat.reduceLeDiff, Int.reduceEq, Int.reduceLT, Int.reduceLE, ↓reduceIte]
end
theorem oper_at (k : Nat) (hk : k < 19) : ∀ h nx, lim T 61 [.int .u8 k] h nx = some (([.nilf, .nilf, .nilf, .nilf, .nilf, .fn 89 [], .fn 90 [], .fn 91 [], .fn 92 [], .fn 93 [], .fn 94 [], .fn 95 [], .fn 97 [], .fn 98 [], .fn 99 [], .fn 100 [], .fn 101 [], .fn 103 [], .fn 104 []] : List FV).getD k .undef, h, nx) := by
 have key : ∀ k : Nat, k < 19 → (match FI.call T 100 61 [.int .u8 k] [] 0 with | some (v, _, _) => eqv v (([.nilf, .nilf, .nilf, .nilf, .nilf, .fn 89 [], .fn 90 [], .fn 91 [], .fn 92 [], .fn 93 [], .fn 94 [], .fn 95 [], .fn 97 [], .fn 98 [], .fn 99 [], .fn 100 [], .fn 101 [], .fn 103 [], .fn 104 []] : List FV).getD k .undef) | none => false) = true := by decide +kernel
 have := key k hk
 split at this
 ·rename_i v h' nx' hc
  rw [← eqv_eq this]
  exact lim_iso_any tg61 rfl (le_lim T _ _ _ _ _ _ hc) (by decide)
 ·cases this
theorem binary_spec (k : Int) (n a b : Nat) (k1 : 5 ≤ k) (k2 : k ≤ 18) (h1 : 1 ≤ n) (h2 : n ≤ 64) (ha : a < 2 ^ n) (hb : b < 2 ^ n) : ∀ h nx, lim T 25 [.int .u8 k, .int .i64 n, .int .u64 a, .int .u64 b] h nx = some (.tup [.int .u64 (opN k n a b : Nat), .int .i64 0], h, nx) := by
 have hw : decide ((1 : Int) ≤ n ∧ (n : Int) ≤ 64) = true := decide_eq_true (by omega)
 have hm := mask_spec' n (by omega) (by omega)
 rw [show ((n : Nat) : Int).toNat = n by omega] at hm
 have hc := fun e h nx => bcheck2 n a b h1 h2 ha hb e h nx
 have key : ∀ (f : Nat) (X : Int), (∀ h nx, lim T 61 [.int .u8 k] h nx = some (.fn f [], h, nx)) → (∀ h nx, lim T f [.int .i64 n, .int .u64 a, .int .u64 b] h nx = some (.int .u64 X, h, nx)) → band .u64 X (2 ^ n - 1) = (opN k n a b : Nat) →
   ∀ h nx, lim T 25 [.int .u8 k, .int .i64 n, .int .u64 a, .int .u64 b] h nx = some (.tup [.int .u64 (opN k n a b : Nat), .int .i64 0], h, nx) := by
  intro f X ho hf hx
  have d1 : decide (k < 5) = false := decide_eq_false (by omega)
  have d2 : decide ((18 : Int) < k) = false := decide_eq_false (by omega)
  refine lim_iso tg25 rfl rfl rfl ?_
  simp (disch := first | omega | (simp only [EVL] <;> omega) | (simp only [hget_c, Nat.reduceEqDiff, ↓reduceIte]; done) | assumption | (simp (disch := omega) only [hg_ne, hg_eq, hgs_ne, *]; done) | (simp only [TL]; done) | with_unfolding_all rfl) only [c25, wideB_spec, hw, d1, d2, bcheck_lim, hc, ho, hf, hm, hx, EVS, Nat.reduceAdd, Nat.reduceSub, Int.reduceToNat, Nat.reduceMul, Nat.reduceEqDiff, Nat.reduceLeDiff, Int.reduceEq, Int.reduceLT, Int.reduceLE, ↓reduceIte]
 have hk : k = 5 ∨ k = 6 ∨ k = 7 ∨ k = 8 ∨ k = 9 ∨ k = 10 ∨ k = 11 ∨ k = 12 ∨ k = 13 ∨ k = 14 ∨ k = 15 ∨ k = 16 ∨ k = 17 ∨ k = 18 := by omega
 rcases hk with rfl | rfl | rfl | rfl | rfl | rfl | rfl | rfl | rfl | rfl | rfl | rfl | rfl | rfl
 ·exact key _ _ (oper_at 5 (by decide)) (op1_spec n a b) (X_add (n := n) (a := a) (b := b) h2)
 ·exact key _ _ (oper_at 6 (by decide)) (op2_spec n a b) (X_sub (n := n) (a := a) (b := b) h2 hb)
 ·exact key _ _ (oper_at 7 (by decide)) (op3_spec n a b) (X_mul (n := n) (a := a) (b := b) h2)
 ·exact key _ _ (oper_at 8 (by decide)) (op4_spec n a b) (X_and h2 ha hb)
 ·exact key _ _ (oper_at 9 (by decide)) (op5_spec n a b) (X_or h2 ha hb)
 ·exact key _ _ (oper_at 10 (by decide)) (op6_spec n a b) (X_xor h2 ha hb)
 ·exact key _ _ (oper_at 11 (by decide)) (op7_spec n a b) (X_shl (n := n) (a := a) (b := b) h2)
 ·exact key _ _ (oper_at 12 (by decide)) (op8_spec n a b) (X_shr (n := n) (a := a) (b := b) h2 ha)
 ·exact key _ _ (oper_at 13 (by decide)) (op9_spec h1 h2 ha) (X_sar (n := n) (a := a) (b := b) h2)
 ·refine key _ _ (oper_at 14 (by decide)) (op10_spec n a b) ?_
  by_cases hz : b = 0
  ·subst hz
   rw [if_pos rfl]; exact X_div0 h2
  ·rw [if_neg hz, w64, Int.emod_eq_of_lt (Int.natCast_nonneg _) (by have := lt64 h2 ha; have := Nat.div_le_self a b; exact Int.ofNat_lt.2 (by omega : a / b < 18446744073709551616))]
   exact X_div h2 ha hz
 ·refine key _ _ (oper_at 15 (by decide)) (op11_spec n a b) ?_
  by_cases hz : b = 0
  ·subst hz
   rw [if_pos rfl]; exact X_rem0 h2 ha
  ·rw [if_neg hz]; exact X_rem h2 ha hz
 ·refine key _ _ (oper_at 16 (by decide)) (op12_spec n a b) ?_
  rw [X_one h1 h2]
  have e : opN 16 n a b = if a = b then 1 else 0 := rfl
  rw [e]
  by_cases c : (a : Int) = b
  ·rw [if_pos (decide_eq_true c), if_pos (by omega)]; rfl
  ·rw [if_neg (by simpa using c), if_neg (by omega)]; rfl
 ·refine key _ _ (oper_at 17 (by decide)) (op13_spec n a b) ?_
  rw [X_one h1 h2]
  have e : opN 17 n a b = if a < b then 1 else 0 := rfl
  rw [e]
  by_cases c : (a : Int) < b
  ·rw [if_pos (decide_eq_true c), if_pos (by omega)]; rfl
  ·rw [if_neg (by simpa using c), if_neg (by omega)]; rfl
 ·refine key _ _ (oper_at 18 (by decide)) (op14_spec h1 h2 ha hb) ?_
  rw [X_one h1 h2]
  have e : opN 18 n a b = if toI n a < toI n b then 1 else 0 := rfl
  rw [e]
  by_cases c : toI n a < toI n b
  ·rw [if_pos (decide_eq_true c), if_pos (by omega)]; rfl
  ·rw [if_neg (by simpa using c), if_neg (by omega)]; rfl
theorem unary_spec (k : Int) (n a : Nat) (hk : k = 3 ∨ k = 4) (h1 : 1 ≤ n) (h2 : n ≤ 64) (ha : a < 2 ^ n) : ∀ h nx, lim T 21 [.int .u8 k, .int .i64 n, .int .u64 a] h nx = some (.tup [.int .u64 (unN k n a : Nat), .int .i64 0], h, nx) := by
 have hw : decide ((1 : Int) ≤ n ∧ (n : Int) ≤ 64) = true := decide_eq_true (by omega)
 have hm := mask_spec' n (by omega) (by omega)
 rw [show ((n : Nat) : Int).toNat = n by omega] at hm
 have hc := fun e h nx => bcheck1 n a h1 h2 ha e h nx
 refine lim_iso tg21 rfl rfl rfl ?_
 rcases hk with rfl | rfl
 ·have hx := X_not h2 ha
  simp (disch := first | omega | (simp only [EVL] <;> omega) | (simp only [hget_c, Nat.reduceEqDiff, ↓reduceIte]; done) | assumption | (simp (disch := omega) only [hg_ne, hg_eq, hgs_ne, *]; done) | (simp only [TL]; done) | with_unfolding_all rfl) only [c21, wideB_spec, hw, bcheck_lim, hc, hm, hx, EVS, Nat.reduceAdd, Nat.reduceSub, Int.reduceToNat, Nat.reduceMul, Nat.reduceEqDiff, Nat.reduceLeDiff, Int.reduceEq, Int.reduceLT, Int.reduceLE, ↓reduceIte]
  rw [show (if IntKind.u64.signed = true then (-1 : Int) else IntKind.u64.max) = 18446744073709551615 from rfl, hx]
 ·have hx := X_neg h2 ha
  simp (disch := first | omega | (simp only [EVL] <;> omega) | (simp only [hget_c, Nat.reduceEqDiff, ↓reduceIte]; done) | assumption | (simp (disch := omega) only [hg_ne, hg_eq, hgs_ne, *]; done) | (simp only [TL]; done) | with_unfolding_all rfl) only [c21, wideB_spec, hw, bcheck_lim, hc, hm, hx, EVS, Nat.reduceAdd, Nat.reduceSub, Int.reduceToNat, Nat.reduceMul, Nat.reduceEqDiff, Nat.reduceLeDiff, Int.reduceEq, Int.reduceLT, Int.reduceLE, ↓reduceIte]
theorem extract_spec (n a lo m : Nat) (h1 : 1 ≤ n) (h2 : n ≤ 64) (ha : a < 2 ^ n) (m1 : 1 ≤ m) (m2 : lo + m ≤ n) : ∀ h nx, lim T 23 [.int .i64 n, .int .u64 a, .int .i64 lo, .int .i64 m] h nx = some (.tup [.int .u64 (a / 2 ^ lo % 2 ^ m : Nat), .int .i64 0], h, nx) := by
 have hm := mask_spec' m (by omega) (by omega)
 rw [show ((m : Nat) : Int).toNat = m by omega] at hm
 have hc := fun e h nx => bcheck1 n a h1 h2 ha e h nx
 have hl := lt64 h2 ha
 have d1 : decide ((lo : Int) < 0) = false := decide_eq_false (by omega)
 have d2 : decide ((m : Int) < 1) = false := decide_eq_false (by omega)
 have d3 : decide ((n : Int) < m) = false := decide_eq_false (by omega)
 have d4 : decide ((n : Int) - m < lo) = false := decide_eq_false (by omega)
 have hs := shr_nat (a := (a : Int)) (n := lo) (by omega) (by omega)
 have hx : band .u64 (((a : Int).toNat >>> lo : Nat) : Int) (2 ^ m - 1) = (a / 2 ^ lo % 2 ^ m : Nat) := by
  rw [Int.toNat_natCast, Nat.shiftRight_eq_div_pow, fin_in (by omega) (Int.natCast_nonneg _) (Int.ofNat_lt.2 (by have := Nat.div_le_self a (2 ^ lo); omega : a / 2 ^ lo < 18446744073709551616)), nat_mod]
 rw [Int.toNat_natCast] at hs hx
 refine lim_iso tg23 rfl rfl rfl ?_
 simp (disch := first | omega | (simp only [EVL] <;> omega) | (simp only [hget_c, Nat.reduceEqDiff, ↓reduceIte]; done) | assumption | (simp (disch := omega) only [hg_ne, hg_eq, hgs_ne, *]; done) | (simp only [TL]; done) | with_unfolding_all rfl) only [c23, bcheck_lim, hc, d1, d2, d3, d4, hs, hm, hx, EVS, Nat.reduceAdd, Nat.reduceSub, Int.reduceToNat, Nat.reduceMul, Nat.reduceEqDiff, Nat.reduceLeDiff, Int.reduceEq, Int.reduceLT, Int.reduceLE, ↓reduceIte]
theorem concat_spec (n a m b : Nat) (h1 : 1 ≤ n) (m1 : 1 ≤ m) (h2 : n + m ≤ 64) (ha : a < 2 ^ n) (hb : b < 2 ^ m) : ∀ h nx, lim T 22 [.int .i64 n, .int .u64 a, .int .i64 m, .int .u64 b] h nx = some (.tup [.int .u64 (a * 2 ^ m + b : Nat), .int .i64 0], h, nx) := by
 have hw1 : decide ((1 : Int) ≤ n ∧ (n : Int) ≤ 64) = true := decide_eq_true (by omega)
 have hw2 : decide ((1 : Int) ≤ m ∧ (m : Int) ≤ 64) = true := decide_eq_true (by omega)
 have hw3 : decide ((1 : Int) ≤ (n : Int) + m ∧ (n : Int) + m ≤ 64) = true := decide_eq_true (by omega)
 have o1 : okS n a := ⟨by omega, by omega, by rw [show ((n : Nat) : Int).toNat = n by omega, ← pow_nat]; exact Int.ofNat_lt.2 ha⟩
 have o2 : okS m b := ⟨by omega, by omega, by rw [show ((m : Nat) : Int).toNat = m by omega, ← pow_nat]; exact Int.ofNat_lt.2 hb⟩
 have hab : a * 2 ^ m < 2 ^ (n + m) := by rw [Nat.pow_add]; exact Nat.mul_lt_mul_of_pos_right ha (Nat.pow_pos (by decide))
 have h64 : (2 : Nat) ^ (n + m) ≤ 2 ^ 64 := Nat.pow_le_pow_right (by decide) h2
 have h64' : (2 : Nat) ^ 64 = 18446744073709551616 := rfl
 have hb64 : b < 18446744073709551616 := lt64 (by omega) hb
 have hs := shl_nat (a := (a : Int)) (n := m) (by omega) (by omega) (by rw [← pow_nat, ← Int.natCast_mul]; exact Int.ofNat_lt.2 (by omega : a * 2 ^ m < 18446744073709551616))
 rw [Int.toNat_natCast, Nat.shiftLeft_eq] at hs
 have hx : bor .u64 ((a * 2 ^ m : Nat) : Int) b = ((a * 2 ^ m + b : Nat) : Int) := by
  rw [bor_nat (Int.natCast_nonneg _) (Int.ofNat_lt.2 (by omega : a * 2 ^ m < 18446744073709551616)) (by omega) (by omega), Int.toNat_natCast, Int.toNat_natCast, Nat.mul_comm, Nat.two_pow_add_eq_or_of_lt hb]
 refine lim_iso tg22 rfl rfl rfl ?_
 simp (disch := first | omega | (simp only [EVL] <;> omega) | (simp only [hget_c, Nat.reduceEqDiff, ↓reduceIte]; done) | assumption | (simp (disch := omega) only [hg_ne, hg_eq, hgs_ne, *]; done) | (simp only [TL]; done) | with_unfolding_all rfl) only [c22, wideB_spec, okB_spec, hw1, hw2, hw3, o1, o2, decide_true, hs, hx, EVS, Nat.reduceAdd, Nat.reduceSub, Int.reduceToNat, Nat.reduceMul, Nat.reduceEqDiff, Nat.reduceLeDiff, Int.reduceEq, Int.reduceLT, Int.reduceLE, ↓reduceIte]
theorem extend_spec (s : Bool) (n a m : Nat) (h1 : 1 ≤ n) (h2 : m ≤ 64) (hnm : n ≤ m) (ha : a < 2 ^ n) : ∀ h nx, lim T 24 [.int .i64 n, .int .u64 a, .int .i64 m, .bool s] h nx = some (.tup [.int .u64 (exN s n m a : Nat), .int .i64 0], h, nx) := by
 have hw1 : decide ((1 : Int) ≤ n ∧ (n : Int) ≤ 64) = true := decide_eq_true (by omega)
 have hw2 : decide ((1 : Int) ≤ m ∧ (m : Int) ≤ 64) = true := decide_eq_true (by omega)
 have d1 : decide ((m : Int) < n) = false := decide_eq_false (by omega)
 have hc := fun e h nx => bcheck1 n a h1 (by omega) ha e h nx
 have hm := mask_spec' m (by omega) (by omega)
 rw [show ((m : Nat) : Int).toNat = m by omega] at hm
 have hg := signed_spec n a h1 (by omega) ha
 refine lim_iso tg24 rfl rfl rfl ?_
 cases s with
 |false =>
  have e : exN false n m a = a := rfl
  rw [e]
  simp (disch := first | omega | (simp only [EVL] <;> omega) | (simp only [hget_c, Nat.reduceEqDiff, ↓reduceIte]; done) | assumption | (simp (disch := omega) only [hg_ne, hg_eq, hgs_ne, *]; done) | (simp only [TL]; done) | with_unfolding_all rfl) only [c24, wideB_spec, hw1, hw2, d1, bcheck_lim, hc, EVS, Nat.reduceAdd, Nat.reduceSub, Int.reduceToNat, Nat.reduceMul, Nat.reduceEqDiff, Nat.reduceLeDiff, Int.reduceEq, Int.reduceLT, Int.reduceLE, ↓reduceIte]
 |true =>
  have hx : band .u64 (IntKind.u64.wrap (toI n a)) (2 ^ m - 1) = (exN true n m a : Nat) := by
   have e : exN true n m a = (toI n a % 2 ^ m).toNat := rfl
   have hp := pow_pos' m
   rw [fin_mod h2, e, Int.toNat_of_nonneg (Int.emod_nonneg _ (by omega))]
  simp (disch := first | omega | (simp only [EVL] <;> omega) | (simp only [hget_c, Nat.reduceEqDiff, ↓reduceIte]; done) | assumption | (simp (disch := omega) only [hg_ne, hg_eq, hgs_ne, *]; done) | (simp only [TL]; done) | with_unfolding_all rfl) only [c24, wideB_spec, hw1, hw2, d1, bcheck_lim, hc, hg, hm, hx, EVS, Nat.reduceAdd, Nat.reduceSub, Int.reduceToNat, Nat.reduceMul, Nat.reduceEqDiff, Nat.reduceLeDiff, Int.reduceEq, Int.reduceLT, Int.reduceLE, ↓reduceIte]
end Go.Proofs.YtkobnfjeehnhlaaGreatDoor.Fi
