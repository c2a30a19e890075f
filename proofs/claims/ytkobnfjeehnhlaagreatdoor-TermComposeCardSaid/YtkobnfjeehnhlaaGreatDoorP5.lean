/- Parts of the proof, after each other. -/
import Derived.Test.YtkobnfjeehnhlaaGreatDoorP3
import Derived.Test.YtkobnfjeehnhlaaGreatDoorP1
import Derived.Test.YtkobnfjeehnhlaaGreatDoorFIVars
import Derived.Test.YtkobnfjeehnhlaaGreatDoorFIMr
import Derived.Test.YtkobnfjeehnhlaaGreatDoorP4
import Derived.Test.YtkobnfjeehnhlaaGreatDoorFIVal
import Derived.Test.YtkobnfjeehnhlaaGreatDoorFIEnv
import Derived.Test.YtkobnfjeehnhlaaGreatDoorTY
import Derived.Test.YtkobnfjeehnhlaaGreatDoorFIY
import Derived.KernelRfl
set_option linter.all false
namespace Go.Proofs.YtkobnfjeehnhlaaGreatDoor.Fi
open Go.FI

open Go.Sort (PermIn SortedIn)
theorem bS0 : bS = bd0 := rfl
def VP (q iid : Nat) (dn : List (FV × FV)) (m : Tm) (h : Heap) (nx : Nat) : Prop := ∃ D : Env0, dn = D.map kvV ∧ keepOf m c27.keep0 = [(2, .lst true []), (3, .int .i64 0), (7, .sref 3 q D.length 0 D.length), (21, .ptr iid 1 0 0)] ∧ hget h q = some (.row 3 (D.map bd0)) ∧ q < nx ∧ iid < nx ∧ iid ≠ q
theorem vars_step (q iid : Nat) (en : Env0) (hen : en.length ≤ 400) (dn : List (FV × FV)) (e : FV × FV) (rest : List (FV × FV)) (m : Tm) (h : Heap) (nx : Nat) (hp : (dn ++ e :: rest).Perm (en.map kvV)) (hP : VP q iid dn m h nx) :
  ∃ y, runIt (rops (np (lim T))) (runs T) c27 e (keepOf m c27.keep0) h nx = some y ∧ VP q iid (dn ++ [e]) y.1 y.2.1 y.2.2 := by
 obtain ⟨D, rfl, h1, h2, h3, h4, h5⟩ := hP
 have he : e ∈ en.map kvV := hp.mem_iff.1 (by simp)
 obtain ⟨p, _, rfl⟩ := List.mem_map.1 he
 have hlen : D.length + 1 ≤ 400 := by
  have := hp.length_eq
  simp only [List.length_append, List.length_map, List.length_cons] at this
  omega
 rw [h1]
 unfold runIt
 show @Ok (Tm × Heap × Nat) (@FI.B (Tm × Heap × Nat) (Tm × Heap × Nat) (rops _ _ _ _ _ _) ⟨_⟩) ⟨_⟩
 simp only [c27, kvV]
 simp (disch := first | omega | (simp only [EVL] <;> omega) | (simp only [hget_c, Nat.reduceEqDiff, ↓reduceIte]; done) | assumption | (simp (disch := omega) only [hg_ne, hg_eq, hgs_ne, *]; done) | (simp only [rb_len, LAWSb, List.length_map]; done) | with_unfolding_all rfl) only [EVS, Nat.reduceAdd, Nat.reduceSub, Int.reduceToNat, Nat.reduceMul, Nat.reduceEqDiff, Nat.reduceLeDiff, Int.reduceEq, Int.reduceLT, Int.reduceLE, ↓reduceIte]
 refine Ok_part ?_
 simp (disch := first | omega | (simp only [EVL] <;> omega) | (simp only [hget_c, Nat.reduceEqDiff, ↓reduceIte]; done) | assumption | (simp (disch := omega) only [hg_ne, hg_eq, hgs_ne, *]; done) | (simp only [rb_len, LAWSb, List.length_map]; done) | with_unfolding_all rfl) only [c27, unf b27_0.eq_1, h2, EVS, Nat.reduceAdd, Nat.reduceSub, Int.reduceToNat, Nat.reduceMul, Nat.reduceEqDiff, Nat.reduceLeDiff, Int.reduceEq, Int.reduceLT, Int.reduceLE, ↓reduceIte]
 exact ⟨D ++ [p], by simp [kvV], by simp, by rw [hgs_eq h2]; simp [bd0], by omega, by omega, h5⟩
theorem vars_fin (t : Te) (q iid : Nat) (en : Env0) (hv : varsE t = .inl en) (hen : en.length ≤ 400) (dn : List (FV × FV)) (m : Tm) (h : Heap) (nx : Nat) (hp : dn.Perm (en.map kvV)) (hP : VP q iid dn m h nx) :
  bnd (runs T [.code c27.post] (keepOf m c27.keep0) h nx) (resM c27.res) = some (.tup [.lst false ((insE [] (varList t)).map bd0), .int .i64 0]) := by
 obtain ⟨D, rfl, h1, h2, h3, h4, h5⟩ := hP
 have hpD : D.Perm en := by
  have := hp.map (fun e : FV × FV => match e with | (.str n, .int _ w) => (n, w) | _ => (([] : List UInt8), (0 : Int)))
  simpa [List.map_map, Function.comp_def, kvV] using this
 have hlen : D.length ≤ 400 := by rw [hpD.length_eq]; exact hen
 rw [h1]
 refine Ok_eq ?_
 show @Ok FV (@FI.B Out FV (runs _ _ _ _ _) ⟨_⟩) ⟨_⟩
 refine Ok_part ?_
 simp only [c27]
 simp (disch := first | omega | (simp only [EVL] <;> omega) | (simp only [hget_c, Nat.reduceEqDiff, ↓reduceIte]; done) | assumption | (simp (disch := omega) only [hg_ne, hg_eq, hgs_ne, *]; done) | (simp only [rb_len, LAWSb, List.length_map]; done) | with_unfolding_all rfl) only [unf k27_1.eq_1, EVS, Nat.reduceAdd, Nat.reduceSub, Int.reduceToNat, Nat.reduceMul, Nat.reduceEqDiff, Nat.reduceLeDiff, Int.reduceEq, Int.reduceLT, Int.reduceLE, ↓reduceIte]
 refine Ok_call (sortF_spec q D.length D.toArray (by omega) (by simp) h _ (by omega) h2) fun r hr => ?_
 obtain ⟨r1, d', p1, p2, p3, p4⟩ := hr
 rw [r1]
 refine ⟨rfl, ?_⟩
 obtain ⟨s1, s2⟩ := SL_sorted (n := D.length) (by simp) p3 p1 p2 (by
  show ND D
  exact List.Perm.pairwise hpD.symm (varsE_nd hv) (fun h => Ne.symm h))
 have hone := vars_one hv s1 fun p => by rw [s2]; exact hpD.mem_iff
 have hrow := p4.1
 have hl : d'.toList.length = D.length := by rw [← p3]; simp
 unfold rowB at hrow
 rw [bS0, hone] at hrow
 rw [hone] at hl
 generalize insE [] (varList t) = L at *
 have hl2 : L.length ≤ 400 := by omega
 rw [← hl]
 simp (disch := first | omega | (simp only [EVL] <;> omega) | (simp only [hget_c, Nat.reduceEqDiff, ↓reduceIte]; done) | assumption | (simp (disch := omega) only [hg_ne, hg_eq, hgs_ne, *]; done) | (simp only [rb_len, LAWSb, List.length_map]; done) | with_unfolding_all rfl) only [resM_r, bnd_s, c27, hrow, EVS, Nat.reduceAdd, Nat.reduceSub, Int.reduceToNat, Nat.reduceMul, Nat.reduceEqDiff, Nat.reduceLeDiff, Int.reduceEq, Int.reduceLT, Int.reduceLE, ↓reduceIte]
open Classical in
noncomputable def varsV (e : Bool) (t : Te) : FV := if checkS t = 0 then .tup [.lst e ((insE [] (varList t)).map bd0), .int .i64 0] else .tup [.lst true [], .int .i64 (checkS t)]
theorem vars_spec (t : Te) (hl : size t ≤ 1000000) (hk : KOk t) : ∀ h nx, lim T 27 [.agg [.int .u8 (t).k, .int .i64 (t).w, .int .u64 (t).b, .str (t).s, .int .i64 (t).lo, .lst (t).e ((t).l.map tV)]] h nx = some (varsV false t, h, nx) := by
 have hck := check_pure t hl hk
 refine lim_mr tg27 (mr_ok rfl (by simp [pures, pure_, pu_Ts]) ?_)
 refine Ok_pre ?_
 simp (disch := first | omega | (simp only [EVL] <;> omega) | (simp only [hget_c, Nat.reduceEqDiff, ↓reduceIte]; done) | assumption | (simp (disch := omega) only [hg_ne, hg_eq, hgs_ne, *]; done) | (simp only [rb_len, LAWSb, List.length_map]; done) | with_unfolding_all rfl) only [c27, EVS, Nat.reduceAdd, Nat.reduceSub, Int.reduceToNat, Nat.reduceMul, Nat.reduceEqDiff, Nat.reduceLeDiff, Int.reduceEq, Int.reduceLT, Int.reduceLE, ↓reduceIte]
 refine Ok_pre ?_
 by_cases hc : checkS t = 0
 ·have hv : ∃ en, varsE t = .inl en ∧ size t ≤ 400 := by
   unfold checkS at hc
   split at hc
   ·cases hc
   ·split at hc
    ·split at hc
     ·rename_i en he; exact ⟨en, he, by omega⟩
     ·cases hc
    ·cases hc
  obtain ⟨en, hv, hs⟩ := hv
  have hvv : varsV false t = .tup [.lst false ((insE [] (varList t)).map bd0), .int .i64 0] := if_pos hc
  rw [hvv]
  simp (disch := first | omega | (simp only [EVL] <;> omega) | (simp only [hget_c, Nat.reduceEqDiff, ↓reduceIte]; done) | assumption | (simp (disch := omega) only [hg_ne, hg_eq, hgs_ne, *]; done) | (simp only [rb_len, LAWSb, List.length_map]; done) | with_unfolding_all rfl) only [c27, TL, hck, hc, EVS, Nat.reduceAdd, Nat.reduceSub, Int.reduceToNat, Nat.reduceMul, Nat.reduceEqDiff, Nat.reduceLeDiff, Int.reduceEq, Int.reduceLT, Int.reduceLE, ↓reduceIte]
  refine Ok_pre ?_
  simp (disch := first | omega | (simp only [EVL] <;> omega) | (simp only [hget_c, Nat.reduceEqDiff, ↓reduceIte]; done) | assumption | (simp (disch := omega) only [hg_ne, hg_eq, hgs_ne, *]; done) | (simp only [rb_len, LAWSb, List.length_map]; done) | with_unfolding_all rfl) only [c27, TL, EVS, Nat.reduceAdd, Nat.reduceSub, Int.reduceToNat, Nat.reduceMul, Nat.reduceEqDiff, Nat.reduceLeDiff, Int.reduceEq, Int.reduceLT, Int.reduceLE, ↓reduceIte]
  refine Ok_call (variables_spec t hl _ _) fun r hr => ?_
  obtain ⟨v, h', nx'⟩ := r
  rw [hv] at hr
  obtain ⟨rfl, q1, q2, q3⟩ := hr
  dsimp only at q1 q2 q3
  refine ⟨rfl, ?_⟩
  simp (disch := first | omega | (simp only [EVL] <;> omega) | (simp only [hget_c, Nat.reduceEqDiff, ↓reduceIte]; done) | assumption | (simp (disch := omega) only [hg_ne, hg_eq, hgs_ne, *]; done) | (simp only [rb_len, LAWSb, List.length_map]; done) | with_unfolding_all rfl) only [c27, EVS, Nat.reduceAdd, Nat.reduceSub, Int.reduceToNat, Nat.reduceMul, Nat.reduceEqDiff, Nat.reduceLeDiff, Int.reduceEq, Int.reduceLT, Int.reduceLE, ↓reduceIte]
  refine Ok_pre ?_
  simp (disch := first | omega | (simp only [EVL] <;> omega) | (simp only [hget_c, Nat.reduceEqDiff, ↓reduceIte]; done) | assumption | (simp (disch := omega) only [hg_ne, hg_eq, hgs_ne, *]; done) | (simp only [rb_len, LAWSb, List.length_map]; done) | with_unfolding_all rfl) only [c27, EVS, Nat.reduceAdd, Nat.reduceSub, Int.reduceToNat, Nat.reduceMul, Nat.reduceEqDiff, Nat.reduceLeDiff, Int.reduceEq, Int.reduceLT, Int.reduceLE, ↓reduceIte]
  refine Ok_pre0 ?_
  refine ⟨18, en.map kvV, rfl, by (simp (disch := omega) only [hg_ne, hg_eq, hgs_ne, hgx_e, Option.map_some, *]), ?_⟩
  have hlen : en.length ≤ 400 := by
   have h1 := (List.perm_ext_iff_of_nodup (List.Pairwise.imp (fun {a b} hab e => hab (by rw [e])) (varsE_nd hv)) (insE_spec (varList t) [] [] List.Pairwise.nil (fun _ => Iff.rfl) (by simpa using (varsE_in hv).1)).1.nodup).2 fun p => by rw [varsE_mem hv, (insE_spec (varList t) [] [] List.Pairwise.nil (fun _ => Iff.rfl) (by simpa using (varsE_in hv).1)).2 p]; simp
   have h2 : ∀ (L out : Env0), (insE out L).length ≤ out.length + L.length := by
    intro L
    induction L with
    |nil => intro out; exact Nat.le_refl _
    |cons p L ih => intro out; have := ih (stepE out p); have := stepE_len out p; simp only [insE, List.length_cons]; omega
   have h3 := h2 (varList t) []
   have h4 : (varList t).length ≤ size t := by have := varL_len (nodesT t); rw [nodesT_len] at this; exact this
   have h5 := h1.length_eq
   simp only [List.length_nil] at h3
   omega
  refine runAll_inv (en := en.map kvV) (VP nx' (nx' + 1)) (fun dn m h nx hP => ?_) (fun dn e rest m h nx hp hP => vars_step nx' (nx' + 1) en hlen dn e rest m h nx hp hP) (fun dn m h nx hp hP => vars_fin t nx' (nx' + 1) en hv hlen dn m h nx hp hP) _ _ [] _ _ _ (Nat.le_refl _) (List.Perm.refl _) ?_
  ·obtain ⟨D, _, h1, _⟩ := hP
   rw [h1]
   simp [gt, c27, eqv]
  ·refine ⟨[], rfl, ?_, ?_, by dsimp only; omega, by dsimp only; omega, by omega⟩
   ·simp [keepOf, gt, put, c27]
   ·simp (disch := omega) only [hg_ne, hg_eq, hgs_ne, List.map_nil]
 ·have hvv : varsV false t = .tup [.lst true [], .int .i64 (checkS t)] := if_neg hc
  rw [hvv]
  have hc' : decide (checkS t = 0) = false := by simp; exact hc
  simp (disch := first | omega | (simp only [EVL] <;> omega) | (simp only [hget_c, Nat.reduceEqDiff, ↓reduceIte]; done) | assumption | (simp (disch := omega) only [hg_ne, hg_eq, hgs_ne, *]; done) | (simp only [rb_len, LAWSb, List.length_map]; done) | with_unfolding_all rfl) only [c27, TL, hck, hc', EVS, Nat.reduceAdd, Nat.reduceSub, Int.reduceToNat, Nat.reduceMul, Nat.reduceEqDiff, Nat.reduceLeDiff, Int.reduceEq, Int.reduceLT, Int.reduceLE, ↓reduceIte]
  simp (disch := first | omega | (simp only [EVL] <;> omega) | (simp only [hget_c, Nat.reduceEqDiff, ↓reduceIte]; done) | assumption | (simp (disch := omega) only [hg_ne, hg_eq, hgs_ne, *]; done) | (simp only [rb_len, LAWSb, List.length_map]; done) | with_unfolding_all rfl) only [resM_r, bnd_s, EVS, Nat.reduceAdd, Nat.reduceSub, Int.reduceToNat, Nat.reduceMul, Nat.reduceEqDiff, Nat.reduceLeDiff, Int.reduceEq, Int.reduceLT, Int.reduceLE, ↓reduceIte]

def ldN (m : Mem) (a at_ w : Nat) : Nat := ldS m a at_ (w / 8)
theorem ldN_lt {m : Mem} (hm : okM m) (a at_ w : Nat) (hw : loadsS w) : ldN m a at_ w < 2 ^ w := by
 have := ldS_lt hm a at_ (w / 8)
 rwa [show 8 * (w / 8) = w by unfold loadsS at hw; omega] at this
abbrev vM (ρ : List UInt8 → Nat) (m : Mem) (t : Te) : Nat := valT ρ (ldN m) t
def boundR (ρ : List UInt8 → Nat) (t : Te) : Prop := ∀ x ∈ nodesT t, x.k = 2 → ρ x.s < 2 ^ x.w.toNat
theorem okS_nat {w b : Int} (h : okS w b) (h0 : 0 ≤ b) : b.toNat < 2 ^ w.toNat := by
 have h1 := h.2.2
 rw [← pow_nat] at h1
 omega
theorem mp0 {f : Te → Nat} {l : List Te} {i : Nat} (h : i < l.length) : (l.map f).getD i 0 = f (l.getD i default) := by simp [List.getD, h]
theorem mpw {l : List Te} {i : Nat} (h : i < l.length) : (l.map Tm'.w).getD i 0 = (l.getD i default).w := by simp [List.getD, h]
theorem val_lt {ρ : List UInt8 → Nat} {m : Mem} (hm : okM m) (t : Te) (hn : nodesOk t) (ht : TOk t) (hρ : boundR ρ t) : vM ρ m t < 2 ^ t.w.toNat := by
 induction t using Tm'.ind with
 |h t ih =>
 have hself := (nodesOk_iff t).1 hn
 have hw := (hself.1).1
 have hsub : ∀ i, i < t.l.length → vM ρ m (t.l.getD i default) < 2 ^ (t.l.getD i default).w.toNat ∧ 1 ≤ (t.l.getD i default).w ∧ (t.l.getD i default).w ≤ 64 := fun i hi => by
  have hmem := getD_mem (d := (default : Te)) hi
  exact ⟨ih _ hmem (hself.2 _ hmem) (ht.sub hmem) (fun x hx => hρ x (nodes_sub hmem hx)), (hself.2 _ hmem _ (mem_nodes _)).1⟩
 have hk := ht.self.1
 have hb := ht.self.2.2.1
 unfold vM at hsub ⊢
 rw [valT_eq]
 unfold vop
 by_cases k1 : t.k = 1
 ·rw [if_pos k1]; exact okS_nat ((node_k1 k1).1 hself.1).2.2.2.2 hb.1
 rw [if_neg k1]
 by_cases k2 : t.k = 2
 ·rw [if_pos k2]; exact hρ t (mem_nodes t) k2
 rw [if_neg k2]
 by_cases k3 : t.k = 3 ∨ t.k = 4
 ·rw [if_pos k3]
  obtain ⟨_, _, _, _, hl, hs⟩ := (node_k34 k3).1 hself.1
  rw [mp0 (by omega), mpw (by omega)]
  have := (hsub 0 (by omega)).1
  unfold subW at hs
  rw [hs] at this ⊢
  exact unN_lt this _
 rw [if_neg k3]
 by_cases k19 : t.k = 19
 ·rw [if_pos k19]
  obtain ⟨_, _, _, _, hl, hs0, hs1, hs2⟩ := (node_k19 k19).1 hself.1
  rw [mp0 (by omega), mp0 (by omega), mp0 (by omega)]
  have h1 := (hsub 1 (by omega)).1
  have h2 := (hsub 2 (by omega)).1
  unfold subW at hs1 hs2
  rw [hs1] at h1
  rw [hs2] at h2
  split
  ·exact h1
  ·exact h2
 rw [if_neg k19]
 by_cases k20 : t.k = 20
 ·rw [if_pos k20]
  obtain ⟨_, _, _, _, hl, hw0, hw1, hs⟩ := (node_k20 k20).1 hself.1
  rw [mp0 (by omega), mp0 (by omega), mpw (by omega)]
  have h0 := (hsub 0 (by omega)).1
  have h1 := (hsub 1 (by omega)).1
  unfold wideS at hw0 hw1
  unfold subW at hs hw0 hw1
  rw [show t.w.toNat = (t.l.getD 0 default).w.toNat + (t.l.getD 1 default).w.toNat by omega, Nat.pow_add]
  calc _ < valT ρ (ldN m) (t.l.getD 0 default) * 2 ^ (t.l.getD 1 default).w.toNat + 2 ^ (t.l.getD 1 default).w.toNat := by omega
   _ = (valT ρ (ldN m) (t.l.getD 0 default) + 1) * 2 ^ (t.l.getD 1 default).w.toNat := by rw [Nat.add_mul, Nat.one_mul]
   _ ≤ _ := Nat.mul_le_mul_right _ h0
 rw [if_neg k20]
 by_cases k21 : t.k = 21
 ·rw [if_pos k21]; exact Nat.mod_lt _ (Nat.pow_pos (by decide))
 rw [if_neg k21]
 by_cases k22 : t.k = 22 ∨ t.k = 23
 ·rw [if_pos k22]
  obtain ⟨_, _, _, _, hl, hs⟩ := (node_k22 k22).1 hself.1
  rw [mp0 (by omega), mpw (by omega)]
  have h0 := hsub 0 (by omega)
  unfold subW at hs
  exact exN_lt (by omega) h0.1
 rw [if_neg k22]
 by_cases k24 : t.k = 24
 ·rw [if_pos k24]
  obtain ⟨_, _, _, _, hl, hs⟩ := (node_k24 k24).1 hself.1
  have hw' := hw
  unfold wideS at hw'
  exact ldN_lt hm _ _ _ (by rw [show ((t.w.toNat : Nat) : Int) = t.w by omega]; exact hs)
 rw [if_neg k24]
 have h24 : 1 ≤ t.k ∧ t.k ≤ 24 := by
  rcases Int.lt_or_le t.k 1 with h | h
  ·exact absurd hself.1 (node_no (.inl h))
  ·rcases Int.lt_or_le 24 t.k with h' | h'
   ·exact absurd hself.1 (node_no (.inr h'))
   ·exact ⟨h, h'⟩
 by_cases k5 : t.k ≤ 15
 ·obtain ⟨_, _, _, _, hl, hs0, hs1⟩ := (node_k5 ⟨by omega, k5⟩).1 hself.1
  rw [mp0 (by omega), mp0 (by omega), mpw (by omega)]
  have h0 := hsub 0 (by omega)
  have h1 := hsub 1 (by omega)
  unfold subW at hs0 hs1
  rw [hs0] at h0 ⊢
  rw [hs1] at h1
  exact opN_lt (by omega) h0.1 h1.1 _
 ·have hk3 : 16 ≤ t.k ∧ t.k ≤ 18 := by omega
  obtain ⟨_, _, _, _, hl, hs0, hs1⟩ := (node_k16 hk3).1 hself.1
  rw [mp0 (by omega), mp0 (by omega), mpw (by omega), hs0]
  show opN t.k _ _ _ < 2
  have key : ∀ c : Prop, [Decidable c] → (if c then 1 else 0) < 2 := fun c _ => by split <;> omega
  rcases (by omega : t.k = 16 ∨ t.k = 17 ∨ t.k = 18) with e | e | e <;> rw [e]
  ·exact key _
  ·exact key _
  ·exact key _

def rhoU (E : EnvU) (s : List UInt8) : Nat := (lkU E s).getD 0
abbrev VR (h : Heap) (nx v : Nat) (r : FV × Heap × Nat) : Prop := r.1 = .int .u64 v ∧ Ext h r.2.1 nx r.2.2
theorem value_loop (E : EnvU) (mid : Nat) (e : Bool) (m : Mem) (t : Te) (hl : t.l.length ≤ 3) (b0 : Nat) (hmid : mid < b0) (h0 : Heap) (h0m : hget h0 mid = some (.mp (E.map kvU)))
  (ih : ∀ x ∈ t.l, ∀ h nx, mid < nx → hget h mid = some (.mp (E.map kvU)) → ∃ r, lim T 44 [.agg [.int .u8 (x).k, .int .i64 (x).w, .int .u64 (x).b, .str (x).s, .int .i64 (x).lo, .lst (x).e ((x).l.map tV)], .map mid, .lst e (m.map ceV)] h nx = some r ∧ VR h nx (vM (rhoU E) m x) r) (Q : Post Out)
  (next : ∀ (h : Heap) (nx : Nat) (cs : List FV) (x : Tm), cs.length = 3 → (∀ j, j < t.l.length → cs[j]? = some (.int .u64 (vM (rhoU E) m (t.l.getD j default) : Nat))) → b0 + 9 ≤ nx → hget h b0 = some (.row 6 [.agg [.int .u8 (t).k, .int .i64 (t).w, .int .u64 (t).b, .str (t).s, .int .i64 (t).lo, .lst (t).e ((t).l.map tV)]]) → hget h (b0 + 8) = some (.row 3 [.agg cs]) → (∀ j, j < b0 → hget h j = hget h0 j) →
   @Ok Out (runs T [.code k44_1] ((1, .map mid) :: (2, .lst e (m.map ceV)) :: (3, .ptr b0 1 0 0) :: (7, .ptr (b0 + 8) 1 0 0) :: x) h nx) Q) :
  ∀ (k i : Nat) (h : Heap) (nx : Nat) (cs : List FV), i + k = t.l.length → cs.length = 3 → (∀ j, j < i → cs[j]? = some (.int .u64 (vM (rhoU E) m (t.l.getD j default) : Nat))) → (∀ v ∈ cs, v.one = true) → b0 + 9 ≤ nx → hget h b0 = some (.row 6 [.agg [.int .u8 (t).k, .int .i64 (t).w, .int .u64 (t).b, .str (t).s, .int .i64 (t).lo, .lst (t).e ((t).l.map tV)]]) → hget h (b0 + 8) = some (.row 3 [.agg cs]) → (∀ j, j < b0 → hget h j = hget h0 j) →
  @Ok Out (runs T [.code b44_0, .inL none b44_0, .inB 1, .code k44_1] [(1, .map mid), (2, .lst e (m.map ceV)), (3, .ptr b0 1 0 0), (7, .ptr (b0 + 8) 1 0 0), (25, .lst t.e (t.l.map tV)), (26, .int .i64 t.l.length), (27, .int .i64 i)] h nx) Q := by
 intro k
 induction k with
 |zero =>
  intro i h nx cs hi hc hv ho hn q1 q2 q3
  have d1 : decide ((i : Int) < t.l.length) = false := by simp; omega
  simp (disch := first | omega | (simp only [EVL] <;> omega) | (simp only [hget_c, Nat.reduceEqDiff, ↓reduceIte]; done) | assumption | (simp (disch := omega) only [hg_ne, hg_eq, hgs_ne, *]; done) | (simp only [TL, LAWSm]; done) | with_unfolding_all rfl) only [unf b44_0.eq_1, c44, d1, EVS, Nat.reduceAdd, Nat.reduceSub, Int.reduceToNat, Nat.reduceMul, Nat.reduceEqDiff, Nat.reduceLeDiff, Int.reduceEq, Int.reduceLT, Int.reduceLE, ↓reduceIte]
  exact next _ _ cs _ hc (fun j hj => hv j (by omega)) (by omega) q1 q2 q3
 |succ k ihk =>
  intro i h nx cs hi hc hv ho hn q1 q2 q3
  have d1 : decide ((i : Int) < t.l.length) = true := by simp; omega
  have hil : i < t.l.length := by omega
  simp (disch := first | omega | (simp only [EVL] <;> omega) | (simp only [hget_c, Nat.reduceEqDiff, ↓reduceIte]; done) | assumption | (simp (disch := omega) only [hg_ne, hg_eq, hgs_ne, *]; done) | (simp only [TL, LAWSm]; done) | with_unfolding_all rfl) only [unf b44_0.eq_1, c44, d1, TL, Nat.add_assoc, EVS, Nat.reduceAdd, Nat.reduceSub, Int.reduceToNat, Nat.reduceMul, Nat.reduceEqDiff, Nat.reduceLeDiff, Int.reduceEq, Int.reduceLT, Int.reduceLE, ↓reduceIte]
  refine Ok_call (ih _ (getD_mem (d := default) hil) _ _ (by omega) ?_) fun r hr => ?_
  ·simp (disch := omega) only [hg_ne]; rw [q3 mid hmid]; exact h0m
  obtain ⟨v, h', nx'⟩ := r
  obtain ⟨rfl, e1, e2⟩ := hr
  dsimp only at e1 e2
  refine ⟨rfl, ?_⟩
  have f1 := (e2 (b0 + 8) (by omega)).trans ((by simp (disch := omega) only [hg_ne] : _ = hget h (b0 + 8)).trans q2)
  have f0 := (e2 b0 (by omega)).trans ((by simp (disch := omega) only [hg_ne] : _ = hget h b0).trans q1)
  have hi3 : i < cs.length := by omega
  have ei : (i : Int) + 1 = ((i + 1 : Nat) : Int) := by omega
  have hsp : List.take (i * 1) cs ++ [FV.int .u64 (vM (rhoU E) m (t.l.getD i default) : Nat)] ++ List.drop (i * 1 + 1) cs = cs.set i (.int .u64 (vM (rhoU E) m (t.l.getD i default) : Nat)) := by
   rw [Nat.mul_one, List.set_eq_take_append_cons_drop, if_pos hi3]; simp
  simp (disch := first | omega | (simp only [EVL] <;> omega) | (simp only [hget_c, Nat.reduceEqDiff, ↓reduceIte]; done) | assumption | (simp (disch := omega) only [hg_ne, hg_eq, hgs_ne, *]; done) | (simp only [TL, LAWSm]; done) | with_unfolding_all rfl) only [c44, TL, f1, hc, hsp, ei, EVS, Nat.reduceAdd, Nat.reduceSub, Int.reduceToNat, Nat.reduceMul, Nat.reduceEqDiff, Nat.reduceLeDiff, Int.reduceEq, Int.reduceLT, Int.reduceLE, ↓reduceIte]
  refine Ok_inL0 (ihk (i + 1) _ _ (cs.set i (.int .u64 (vM (rhoU E) m (t.l.getD i default) : Nat))) (by omega) (by rw [List.length_set]; exact hc) (fun j hj => ?_) (fun v hv' => ?_) (by omega) ?_ (hgs_eq f1) (fun j hj => ?_))
  ·by_cases hji : j = i
   ·subst hji; rw [List.getElem?_set_self hi3]
   ·rw [List.getElem?_set_ne (by omega)]; exact hv j (by omega)
  ·rcases (List.mem_or_eq_of_mem_set hv').symm with rfl | h
   ·rfl
   ·exact ho v h
  ·rw [hgs_ne (by omega)]; exact f0
  ·rw [hgs_ne (by omega), e2 j (by omega)]
   exact (by simp (disch := omega) only [hg_ne] : _ = hget h j).trans (q3 j hj)
theorem value_spec (E : EnvU) (mid : Nat) (e : Bool) (m : Mem) (hm : okM m) (hms : memS m) (t : Te) (hn : nodesOk t) (ht : TOk t) (hρ : boundR (rhoU E) t) : ∀ h nx, mid < nx → hget h mid = some (.mp (E.map kvU)) →
  ∃ r, lim T 44 [.agg [.int .u8 (t).k, .int .i64 (t).w, .int .u64 (t).b, .str (t).s, .int .i64 (t).lo, .lst (t).e ((t).l.map tV)], .map mid, .lst e (m.map ceV)] h nx = some r ∧ VR h nx (vM (rhoU E) m t) r := by
 induction t using Tm'.ind with
 |h t ih =>
 intro h nx hmid hget0
 have hself := (nodesOk_iff t).1 hn
 have hb := ht.self.2.2.1
 have hval := valT_eq (rhoU E) (ldN m) t
 have hk24 : 1 ≤ t.k ∧ t.k ≤ 24 := by
  rcases Int.lt_or_le t.k 1 with h | h
  ·exact absurd hself.1 (node_no (.inl h))
  ·rcases Int.lt_or_le 24 t.k with h' | h'
   ·exact absurd hself.1 (node_no (.inr h'))
   ·exact ⟨h, h'⟩
 refine shr_ex tg44 rfl rfl ?_
 by_cases k1 : t.k = 1
 ·have hv : vM (rhoU E) m t = t.b.toNat := by unfold vM; rw [hval, vop, if_pos k1]
  rw [hv]
  simp (disch := first | omega | (simp only [EVL] <;> omega) | (simp only [hget_c, Nat.reduceEqDiff, ↓reduceIte]; done) | assumption | (simp (disch := omega) only [hg_ne, hg_eq, hgs_ne, *]; done) | (simp only [TL, LAWSm]; done) | with_unfolding_all rfl) only [c44, k1, TL, EVS, Nat.reduceAdd, Nat.reduceSub, Int.reduceToNat, Nat.reduceMul, Nat.reduceEqDiff, Nat.reduceLeDiff, Int.reduceEq, Int.reduceLT, Int.reduceLE, ↓reduceIte]
  exact ⟨by show FV.int .u64 t.b = .int .u64 ((t.b.toNat : Nat) : Int); rw [Int.toNat_of_nonneg hb.1], by dsimp only; omega, fun i hi => hg_ne (by omega)⟩
 by_cases k2 : t.k = 2
 ·have hv : vM (rhoU E) m t = rhoU E t.s := by unfold vM; rw [hval, vop, if_neg k1, if_pos k2]
  rw [hv]
  have hf := find_U t.s E
  unfold rhoU
  cases hlk : lkU E t.s with
  |none =>
   rw [hlk] at hf
   simp only [Option.map_none] at hf
   simp (disch := first | omega | (simp only [EVL] <;> omega) | (simp only [hget_c, Nat.reduceEqDiff, ↓reduceIte]; done) | assumption | (simp (disch := omega) only [hg_ne, hg_eq, hgs_ne, *]; done) | (simp only [TL, LAWSm]; done) | with_unfolding_all rfl) only [c44, k2, TL, hget0, hf, EVS, Nat.reduceAdd, Nat.reduceSub, Int.reduceToNat, Nat.reduceMul, Nat.reduceEqDiff, Nat.reduceLeDiff, Int.reduceEq, Int.reduceLT, Int.reduceLE, ↓reduceIte]
   exact ⟨rfl, by dsimp only; omega, fun i hi => hg_ne (by omega)⟩
  |some w =>
   rw [hlk] at hf
   simp only [Option.map_some] at hf
   simp (disch := first | omega | (simp only [EVL] <;> omega) | (simp only [hget_c, Nat.reduceEqDiff, ↓reduceIte]; done) | assumption | (simp (disch := omega) only [hg_ne, hg_eq, hgs_ne, *]; done) | (simp only [TL, LAWSm]; done) | with_unfolding_all rfl) only [c44, k2, TL, hget0, hf, EVS, Nat.reduceAdd, Nat.reduceSub, Int.reduceToNat, Nat.reduceMul, Nat.reduceEqDiff, Nat.reduceLeDiff, Int.reduceEq, Int.reduceLT, Int.reduceLE, ↓reduceIte]
   exact ⟨rfl, by dsimp only; omega, fun i hi => hg_ne (by omega)⟩
 have hp : t.l.length ≤ 3 := by
  have h2 := hself.1.2
  rw [if_pos (by omega)] at h2
  have := h2.2.2.2.1
  unfold partsS at this
  (repeat' split at this) <;> omega
 have d1 : decide (t.k = 1) = false := decide_eq_false k1
 have d2 : decide (t.k = 2) = false := decide_eq_false k2
 have ih' : ∀ x ∈ t.l, ∀ h nx, mid < nx → hget h mid = some (.mp (E.map kvU)) → ∃ r, lim T 44 [.agg [.int .u8 (x).k, .int .i64 (x).w, .int .u64 (x).b, .str (x).s, .int .i64 (x).lo, .lst (x).e ((x).l.map tV)], .map mid, .lst e (m.map ceV)] h nx = some r ∧ VR h nx (vM (rhoU E) m x) r := fun x hx => ih x hx (hself.2 x hx) (ht.sub hx) (fun y hy => hρ y (nodes_sub hx hy))
 simp (disch := first | omega | (simp only [EVL] <;> omega) | (simp only [hget_c, Nat.reduceEqDiff, ↓reduceIte]; done) | assumption | (simp (disch := omega) only [hg_ne, hg_eq, hgs_ne, *]; done) | (simp only [TL, LAWSm]; done) | with_unfolding_all rfl) only [c44, d1, d2, TL, Nat.add_assoc, EVS, Nat.reduceAdd, Nat.reduceSub, Int.reduceToNat, Nat.reduceMul, Nat.reduceEqDiff, Nat.reduceLeDiff, Int.reduceEq, Int.reduceLT, Int.reduceLE, ↓reduceIte]
 refine value_loop E mid e m t hp nx hmid h hget0 ih' _ (fun h' nx' cs x hc hv hnx q1 q2 q3 => ?_) t.l.length 0 _ _ [.int .u64 0, .int .u64 0, .int .u64 0] (by omega) rfl (fun j hj => by omega) (by simp [FV.one]) (by omega) ?_ ?_ (fun j hj => by simp (disch := omega) only [hg_ne])
 ·have hsub : ∀ i, i < t.l.length → vM (rhoU E) m (t.l.getD i default) < 2 ^ (t.l.getD i default).w.toNat ∧ 1 ≤ (t.l.getD i default).w ∧ (t.l.getD i default).w ≤ 64 := fun i hi => by
   have hmem := getD_mem (d := (default : Te)) hi
   exact ⟨val_lt hm _ (hself.2 _ hmem) (ht.sub hmem) (fun x hx => hρ x (nodes_sub hmem hx)), (hself.2 _ hmem _ (mem_nodes _)).1⟩
  have hw := (hself.1).1
  have fin : ∀ nx'', nx' ≤ nx'' → Ext h h' nx nx'' := fun nx'' h2 => ⟨by omega, fun i hi => q3 i hi⟩
  have hvm : vM (rhoU E) m t = vop (ldN m) t.k t.w t.b t.lo (rhoU E t.s) (t.l.map Tm'.w) (t.l.map (vM (rhoU E) m)) := hval
  have fin2 : ∀ (X : Nat) (nx'' : Nat), vM (rhoU E) m t = X → nx' ≤ nx'' → VR h nx (vM (rhoU E) m t) (.int .u64 X, h', nx'') := fun X nx'' e1 h2 => ⟨by rw [e1], fin nx'' h2⟩
  have z0 : ∀ i, i < t.l.length → (((t.l.getD i default).w.toNat : Nat) : Int) = (t.l.getD i default).w := fun i hi => Int.toNat_of_nonneg (by have := hsub i hi; omega)
  have zw : ((t.w.toNat : Nat) : Int) = t.w := Int.toNat_of_nonneg (by unfold wideS at hw; omega)
  by_cases k3 : t.k = 3 ∨ t.k = 4
  ·obtain ⟨_, _, _, _, hl, hs⟩ := (node_k34 k3).1 hself.1
   have w0 := hsub 0 (by omega)
   have c0 : cellsAt cs none 0 = _ := hv 0 (by omega)
   have hu := unary_spec t.k (t.l.getD 0 default).w.toNat _ k3 (by omega) (by omega) w0.1
   rw [z0 0 (by omega)] at hu
   have hx := hvm
   rw [vop, if_neg k1, if_neg k2, if_pos k3, mp0 (by omega), mpw (by omega)] at hx
   rcases k3 with k3 | k3
   ·rw [k3] at hu hx
    simp (disch := first | omega | (simp only [EVL] <;> omega) | (simp only [hget_c, Nat.reduceEqDiff, ↓reduceIte]; done) | assumption | (simp (disch := omega) only [hg_ne, hg_eq, hgs_ne, *]; done) | (simp only [TL, LAWSm]; done) | with_unfolding_all rfl) only [unf k44_1.eq_1, c44, TL, k3, q1, q2, c0, hu, EVS, Nat.reduceAdd, Nat.reduceSub, Int.reduceToNat, Nat.reduceMul, Nat.reduceEqDiff, Nat.reduceLeDiff, Int.reduceEq, Int.reduceLT, Int.reduceLE, ↓reduceIte]
    refine fin2 _ _ hx ?_
    first | omega | (dsimp only; omega)
   ·rw [k3] at hu hx
    simp (disch := first | omega | (simp only [EVL] <;> omega) | (simp only [hget_c, Nat.reduceEqDiff, ↓reduceIte]; done) | assumption | (simp (disch := omega) only [hg_ne, hg_eq, hgs_ne, *]; done) | (simp only [TL, LAWSm]; done) | with_unfolding_all rfl) only [unf k44_1.eq_1, c44, TL, k3, q1, q2, c0, hu, EVS, Nat.reduceAdd, Nat.reduceSub, Int.reduceToNat, Nat.reduceMul, Nat.reduceEqDiff, Nat.reduceLeDiff, Int.reduceEq, Int.reduceLT, Int.reduceLE, ↓reduceIte]
    refine fin2 _ _ hx ?_
    first | omega | (dsimp only; omega)
  by_cases k19 : t.k = 19
  ·obtain ⟨_, _, _, _, hl, hs, _, _⟩ := (node_k19 k19).1 hself.1
   have w0 := hsub 0 (by omega)
   have c0 : cellsAt cs none 0 = _ := hv 0 (by omega)
   have c1 : cellsAt cs none 1 = _ := hv 1 (by omega)
   have c2 : cellsAt cs none 2 = _ := hv 2 (by omega)
   have hx := hvm
   rw [vop, if_neg k1, if_neg k2, if_neg k3, if_pos k19, mp0 (by omega), mp0 (by omega), mp0 (by omega)] at hx
   have ta : ((2 : Int) - ((0 : Nat) : Int)).toNat * 1 = 2 := rfl
   have tb : ((2 : Int) - ((1 : Nat) : Int)).toNat * 1 = 1 := rfl
   unfold subW at hs
   rw [hs] at w0
   have h01 : vM (rhoU E) m (t.l.getD 0 default) < 2 := w0.1
   rcases (by omega : vM (rhoU E) m (t.l.getD 0 default) = 0 ∨ vM (rhoU E) m (t.l.getD 0 default) = 1) with e0 | e0
   ·rw [e0] at c0 hx
    rw [if_neg (by omega)] at hx
    simp (disch := first | omega | (simp only [EVL] <;> omega) | (simp only [hget_c, Nat.reduceEqDiff, ↓reduceIte]; done) | assumption | (simp (disch := omega) only [hg_ne, hg_eq, hgs_ne, *]; done) | (simp only [TL, LAWSm]; done) | with_unfolding_all rfl) only [unf k44_1.eq_1, c44, TL, k19, q1, q2, c0, c2, ta, EVS, Nat.reduceAdd, Nat.reduceSub, Int.reduceToNat, Nat.reduceMul, Nat.reduceEqDiff, Nat.reduceLeDiff, Int.reduceEq, Int.reduceLT, Int.reduceLE, ↓reduceIte]
    refine fin2 _ _ hx ?_
    first | omega | (dsimp only; omega)
   ·rw [e0] at c0 hx
    rw [if_pos rfl] at hx
    simp (disch := first | omega | (simp only [EVL] <;> omega) | (simp only [hget_c, Nat.reduceEqDiff, ↓reduceIte]; done) | assumption | (simp (disch := omega) only [hg_ne, hg_eq, hgs_ne, *]; done) | (simp only [TL, LAWSm]; done) | with_unfolding_all rfl) only [unf k44_1.eq_1, c44, TL, k19, q1, q2, c0, c1, tb, EVS, Nat.reduceAdd, Nat.reduceSub, Int.reduceToNat, Nat.reduceMul, Nat.reduceEqDiff, Nat.reduceLeDiff, Int.reduceEq, Int.reduceLT, Int.reduceLE, ↓reduceIte]
    refine fin2 _ _ hx ?_
    first | omega | (dsimp only; omega)
  by_cases k20 : t.k = 20
  ·obtain ⟨_, _, _, _, hl, hw0, hw1, hs⟩ := (node_k20 k20).1 hself.1
   have w0 := hsub 0 (by omega)
   have w1 := hsub 1 (by omega)
   have c0 : cellsAt cs none 0 = _ := hv 0 (by omega)
   have c1 : cellsAt cs none 1 = _ := hv 1 (by omega)
   unfold wideS at hw
   unfold subW at hs
   have hu := concat_spec (t.l.getD 0 default).w.toNat _ (t.l.getD 1 default).w.toNat _ (by omega) (by omega) (by omega) w0.1 w1.1
   rw [z0 0 (by omega), z0 1 (by omega)] at hu
   have hx := hvm
   rw [vop, if_neg k1, if_neg k2, if_neg k3, if_neg k19, if_pos k20, mp0 (by omega), mp0 (by omega), mpw (by omega)] at hx
   simp (disch := first | omega | (simp only [EVL] <;> omega) | (simp only [hget_c, Nat.reduceEqDiff, ↓reduceIte]; done) | assumption | (simp (disch := omega) only [hg_ne, hg_eq, hgs_ne, *]; done) | (simp only [TL, LAWSm]; done) | with_unfolding_all rfl) only [unf k44_1.eq_1, c44, TL, k20, q1, q2, c0, c1, hu, EVS, Nat.reduceAdd, Nat.reduceSub, Int.reduceToNat, Nat.reduceMul, Nat.reduceEqDiff, Nat.reduceLeDiff, Int.reduceEq, Int.reduceLT, Int.reduceLE, ↓reduceIte]
   refine fin2 _ _ hx ?_
   first | omega | (dsimp only; omega)
  by_cases k21 : t.k = 21
  ·obtain ⟨_, _, _, _, hl, hlo, hw0, _, hs⟩ := (node_k21 k21).1 hself.1
   have w0 := hsub 0 (by omega)
   have c0 : cellsAt cs none 0 = _ := hv 0 (by omega)
   unfold wideS at hw
   unfold subW at hs
   have zl : ((t.lo.toNat : Nat) : Int) = t.lo := Int.toNat_of_nonneg hlo
   have hu := extract_spec (t.l.getD 0 default).w.toNat _ t.lo.toNat t.w.toNat (by omega) (by omega) w0.1 (by omega) (by omega)
   rw [z0 0 (by omega), zl, zw] at hu
   have hx := hvm
   rw [vop, if_neg k1, if_neg k2, if_neg k3, if_neg k19, if_neg k20, if_pos k21, mp0 (by omega)] at hx
   simp (disch := first | omega | (simp only [EVL] <;> omega) | (simp only [hget_c, Nat.reduceEqDiff, ↓reduceIte]; done) | assumption | (simp (disch := omega) only [hg_ne, hg_eq, hgs_ne, *]; done) | (simp only [TL, LAWSm]; done) | with_unfolding_all rfl) only [unf k44_1.eq_1, c44, TL, k21, q1, q2, c0, hu, EVS, Nat.reduceAdd, Nat.reduceSub, Int.reduceToNat, Nat.reduceMul, Nat.reduceEqDiff, Nat.reduceLeDiff, Int.reduceEq, Int.reduceLT, Int.reduceLE, ↓reduceIte]
   refine fin2 _ _ hx ?_
   first | omega | (dsimp only; omega)
  by_cases k22 : t.k = 22 ∨ t.k = 23
  ·obtain ⟨_, _, _, _, hl, hs⟩ := (node_k22 k22).1 hself.1
   have w0 := hsub 0 (by omega)
   have c0 : cellsAt cs none 0 = _ := hv 0 (by omega)
   unfold wideS at hw
   unfold subW at hs
   have hu := extend_spec (decide (t.k = 23)) (t.l.getD 0 default).w.toNat _ t.w.toNat (by omega) (by omega) (by omega) w0.1
   rw [z0 0 (by omega), zw] at hu
   have hx := hvm
   rw [vop, if_neg k1, if_neg k2, if_neg k3, if_neg k19, if_neg k20, if_neg k21, if_pos k22, mp0 (by omega), mpw (by omega)] at hx
   rcases k22 with k22 | k22
   ·rw [k22] at hu hx
    rw [show decide ((22 : Int) = 23) = false from rfl] at hu hx
    simp (disch := first | omega | (simp only [EVL] <;> omega) | (simp only [hget_c, Nat.reduceEqDiff, ↓reduceIte]; done) | assumption | (simp (disch := omega) only [hg_ne, hg_eq, hgs_ne, *]; done) | (simp only [TL, LAWSm]; done) | with_unfolding_all rfl) only [unf k44_1.eq_1, c44, TL, k22, q1, q2, c0, hu, EVS, Nat.reduceAdd, Nat.reduceSub, Int.reduceToNat, Nat.reduceMul, Nat.reduceEqDiff, Nat.reduceLeDiff, Int.reduceEq, Int.reduceLT, Int.reduceLE, ↓reduceIte]
    refine fin2 _ _ hx ?_
    first | omega | (dsimp only; omega)
   ·rw [k22] at hu hx
    rw [show decide ((23 : Int) = 23) = true from rfl] at hu hx
    simp (disch := first | omega | (simp only [EVL] <;> omega) | (simp only [hget_c, Nat.reduceEqDiff, ↓reduceIte]; done) | assumption | (simp (disch := omega) only [hg_ne, hg_eq, hgs_ne, *]; done) | (simp only [TL, LAWSm]; done) | with_unfolding_all rfl) only [unf k44_1.eq_1, c44, TL, k22, q1, q2, c0, hu, EVS, Nat.reduceAdd, Nat.reduceSub, Int.reduceToNat, Nat.reduceMul, Nat.reduceEqDiff, Nat.reduceLeDiff, Int.reduceEq, Int.reduceLT, Int.reduceLE, ↓reduceIte]
    refine fin2 _ _ hx ?_
    first | omega | (dsimp only; omega)
  by_cases k24 : t.k = 24
  ·obtain ⟨_, _, _, _, hl, hs⟩ := (node_k24 k24).1 hself.1
   have w0 := hsub 0 (by omega)
   have c0 : cellsAt cs none 0 = _ := hv 0 (by omega)
   unfold wideS at hw
   have h64 : 2 ^ (t.l.getD 0 default).w.toNat ≤ 2 ^ 64 := Nat.pow_le_pow_right (by decide) (by omega)
   have e64 : (2 : Nat) ^ 64 = 18446744073709551616 := rfl
   have hu := loaded_spec e m (t.l.getD 0 default).w (vM (rhoU E) m (t.l.getD 0 default) : Nat) t.w.toNat hms hm (by omega) (by omega) (by omega) (by omega) (by omega)
   rw [zw] at hu
   have hx := hvm
   rw [vop, if_neg k1, if_neg k2, if_neg k3, if_neg k19, if_neg k20, if_neg k21, if_neg k22, if_pos k24, mp0 (by omega), mpw (by omega), ldN, z0 0 (by omega)] at hx
   simp (disch := first | omega | (simp only [EVL] <;> omega) | (simp only [hget_c, Nat.reduceEqDiff, ↓reduceIte]; done) | assumption | (simp (disch := omega) only [hg_ne, hg_eq, hgs_ne, *]; done) | (simp only [TL, LAWSm]; done) | with_unfolding_all rfl) only [unf k44_1.eq_1, c44, TL, k24, q1, q2, c0, hu, EVS, Nat.reduceAdd, Nat.reduceSub, Int.reduceToNat, Nat.reduceMul, Nat.reduceEqDiff, Nat.reduceLeDiff, Int.reduceEq, Int.reduceLT, Int.reduceLE, ↓reduceIte]
   refine fin2 _ _ hx ?_
   first | omega | (dsimp only; omega)
  have e3 : decide (t.k = 3) = false := decide_eq_false (fun e => k3 (.inl e))
  have e4 : decide (t.k = 4) = false := decide_eq_false (fun e => k3 (.inr e))
  have e19 : decide (t.k = 19) = false := decide_eq_false k19
  have e20 : decide (t.k = 20) = false := decide_eq_false k20
  have e21 : decide (t.k = 21) = false := decide_eq_false k21
  have e22 : decide (t.k = 22) = false := decide_eq_false (fun e => k22 (.inl e))
  have e23 : decide (t.k = 23) = false := decide_eq_false (fun e => k22 (.inr e))
  have e24 : decide (t.k = 24) = false := decide_eq_false k24
  have hl2 : t.l.length = 2 ∧ (t.l.getD 1 default).w = (t.l.getD 0 default).w := by
   by_cases k5 : t.k ≤ 15
   ·obtain ⟨_, _, _, _, hl, hs0, hs1⟩ := (node_k5 ⟨by omega, k5⟩).1 hself.1
    unfold subW at hs0 hs1
    exact ⟨hl, hs1.trans hs0.symm⟩
   ·obtain ⟨_, _, _, _, hl, _, hs1⟩ := (node_k16 (t := t) (by omega)).1 hself.1
    unfold subW at hs1
    exact ⟨hl, hs1⟩
  have w0 := hsub 0 (by omega)
  have w1 := hsub 1 (by omega)
  have c0 : cellsAt cs none 0 = _ := hv 0 (by omega)
  have c1 : cellsAt cs none 1 = _ := hv 1 (by omega)
  rw [hl2.2] at w1
  have hu := binary_spec t.k (t.l.getD 0 default).w.toNat _ _ (by omega) (by omega) (by omega) (by omega) w0.1 w1.1
  rw [z0 0 (by omega)] at hu
  have hx := hvm
  rw [vop, if_neg k1, if_neg k2, if_neg k3, if_neg k19, if_neg k20, if_neg k21, if_neg k22, if_neg k24, mp0 (by omega), mp0 (by omega), mpw (by omega)] at hx
  simp (disch := first | omega | (simp only [EVL] <;> omega) | (simp only [hget_c, Nat.reduceEqDiff, ↓reduceIte]; done) | assumption | (simp (disch := omega) only [hg_ne, hg_eq, hgs_ne, *]; done) | (simp only [TL, LAWSm]; done) | with_unfolding_all rfl) only [unf k44_1.eq_1, c44, TL, e3, e4, e19, e20, e21, e22, e23, e24, q1, q2, c0, c1, hu, EVS, Nat.reduceAdd, Nat.reduceSub, Int.reduceToNat, Nat.reduceMul, Nat.reduceEqDiff, Nat.reduceLeDiff, Int.reduceEq, Int.reduceLT, Int.reduceLE, ↓reduceIte]
  refine fin2 _ _ hx ?_
  first | omega | (dsimp only; omega)
 ·simp (disch := omega) only [hg_ne, hg_eq]
 ·simp (disch := omega) only [hg_ne, hg_eq]

theorem bound_at {env : Env} (mono : ∀ a b, a < b → b < env.length → Op.bytesLess (nm env a) (nm env b) = true) {s : List UInt8} {i : Nat} (lo : ∀ k, k < i → Op.bytesLess (nm env k) s = true) (hi : ∀ k, i ≤ k → k < env.length → ¬ Op.bytesLess (nm env k) s = true) :
  boundS env s = if i < env.length ∧ (env.getD i ([], 0, 0)).1 = s then some (env.getD i ([], 0, 0)) else none := by
 have ne : ∀ k, k < i → ¬ nm env k = s := fun k hk e => by have := lo k hk; rw [e, less_irr] at this; cases this
 split
 ·rename_i h
  exact find_at env s i h.1 ne h.2
 ·rename_i h
  refine find_no env s fun k hk e => ?_
  by_cases h1 : k < i
  ·exact ne k h1 e
  ·by_cases h2 : k = i
   ·subst h2; exact h ⟨hk, e⟩
   ·have := hi i (by omega) (by omega)
    rw [← e] at this
    exact this (mono i k (by omega) hk)
def oneE (env : Env) (p : List UInt8 × Int) : Int := match boundS env p.1 with
 |none => 16
 |some q => if q.2.1 = p.2 then 0 else 14
def firstE (env : Env) : Env0 → Int
 |[] => 0
 |p :: r => if oneE env p = 0 then firstE env r else oneE env p
def rhoE (env : Env) (s : List UInt8) : Nat := match boundS env s with
 |some q => q.2.2.toNat
 |none => 0
open Classical in
noncomputable def valErr (t : Te) (env : Env) (m : Mem) : Int :=
 if checkS t = 0 then if chkB env = 0 then if chkM m = 0 then firstE env (insE [] (varList t)) else 8 else 8 else checkS t
open Classical in
noncomputable def valV (t : Te) (env : Env) (m : Mem) : FV := .tup [.int .u64 (if valErr t env m = 0 then vM (rhoE env) m t else 0 : Nat), .int .i64 (valErr t env m)]
def upE (env : Env) (p : List UInt8 × Int) : List UInt8 × Nat := (p.1, rhoE env p.1)
theorem lkU_fresh {env : Env} {s : List UInt8} : ∀ {L : Env0}, (∀ p ∈ L, p.1 ≠ s) → lkU (L.map (upE env)) s = none := by
 intro L
 induction L with
 |nil => intro _; rfl
 |cons p L ih =>
  intro h
  simp only [List.map_cons, upE, lkU]
  rw [if_neg (fun e => h p (by simp) e.symm)]
  exact ih fun q hq => h q (by simp [hq])
theorem lkU_mem {env : Env} {s : List UInt8} : ∀ {L : Env0}, (∃ p ∈ L, p.1 = s) → lkU (L.map (upE env)) s = some (rhoE env s) := by
 intro L
 induction L with
 |nil => rintro ⟨p, hp, _⟩; cases hp
 |cons p L ih =>
  rintro ⟨q, hq, rfl⟩
  simp only [List.map_cons, upE, lkU]
  by_cases e : q.1 = p.1
  ·rw [if_pos e, e]
  ·rw [if_neg e]
   rcases List.mem_cons.1 hq with rfl | hq
   ·exact absurd rfl e
   ·exact ih ⟨q, hq, rfl⟩
theorem firstE_all {env : Env} : ∀ {L : Env0}, (∀ p ∈ L, oneE env p = 0) → firstE env L = 0 := by
 intro L
 induction L with
 |nil => intro _; rfl
 |cons p L ih =>
  intro h
  simp only [firstE]
  rw [if_pos (h p (by simp))]
  exact ih fun q hq => h q (by simp [hq])
theorem firstE_zero {env : Env} : ∀ {L : Env0}, firstE env L = 0 → ∀ p ∈ L, oneE env p = 0 := by
 intro L
 induction L with
 |nil => intro _ p hp; cases hp
 |cons q L ih =>
  intro h p hp
  simp only [firstE] at h
  by_cases hq : oneE env q = 0
  ·rw [if_pos hq] at h
   rcases List.mem_cons.1 hp with rfl | hp
   ·exact hq
   ·exact ih h p hp
  ·rw [if_neg hq] at h; exact absurd h hq
theorem firstE_at {env : Env} {p : List UInt8 × Int} {R : Env0} (hp : oneE env p ≠ 0) : ∀ {L : Env0}, (∀ q ∈ L, oneE env q = 0) → firstE env (L ++ p :: R) = oneE env p := by
 intro L
 induction L with
 |nil => intro _; simp only [List.nil_append, firstE]; rw [if_neg hp]
 |cons q L ih =>
  intro h
  simp only [List.cons_append, firstE]
  rw [if_pos (h q (by simp))]
  exact ih fun r hr => h r (by simp [hr])
theorem SL_name {L : Env0} (h : SL L) {i : Nat} (hi : i < L.length) : ∀ p ∈ L.take i, p.1 ≠ (L.getD i ([], 0)).1 := by
 intro p hp e
 obtain ⟨j, hj, rfl⟩ := List.mem_iff_getElem.1 hp
 rw [List.length_take] at hj
 have := List.pairwise_iff_getElem.1 h j i (by omega) hi (by omega)
 rw [List.getElem_take] at e
 have e2 : L.getD i ([], 0) = L[i] := by simp [List.getD, hi]
 rw [e, e2, less_irr] at this
 cases this
theorem take_succ' {L : Env0} {i : Nat} (h : i < L.length) : L.take (i + 1) = L.take i ++ [L.getD i ([], 0)] := by
 rw [List.take_add_one]; simp [List.getD, h]
theorem drop_getD' {L : Env0} {i : Nat} (h : i < L.length) : L.drop i = L.getD i ([], 0) :: L.drop (i + 1) := by
 rw [List.drop_eq_getElem_cons h]; simp [List.getD, h]
theorem lo_u (b : Nat) (E : EnvU) : ((E.map kvU).all fun e => low b e.1 && low b e.2) = true := by
 rw [List.all_eq_true]; intro x hx; obtain ⟨p, _, rfl⟩ := List.mem_map.1 hx; rfl
abbrev VQ (t : Te) (env : Env) (m : Mem) (L : Env0) : Post Out := ⟨fun x => finV c11.res x = some (.tup [.int .u64 (if firstE env L = 0 then vM (rhoE env) m t else 0 : Nat), .int .i64 (firstE env L)])⟩
theorem bound_bd {env : Env} (hx : ∀ p ∈ env, 0 ≤ p.2.2 ∧ p.2.2 ≤ 18446744073709551615) {s : List UInt8} {q : List UInt8 × Int × Int} (h : boundS env s = some q) : q ∈ env ∧ q.1 = s ∧ 0 ≤ q.2.2 := by
 have hm := List.mem_of_find?_eq_some h
 have hp := List.find?_some h
 exact ⟨hm, by simpa using hp, (hx q hm).1⟩
theorem valF_loop (e d : Bool) (env : Env) (m : Mem) (hm : okM m) (hms : memS m) (hl : env.length ≤ 1000) (hx : ∀ p ∈ env, 0 ≤ p.2.2 ∧ p.2.2 ≤ 18446744073709551615) (hg : ∀ i, i < env.length → goodB env i) (t : Te) (hn : nodesOk t) (ht : TOk t) (hs : size t ≤ 1000000) (L : Env0) (hL : SL L) (hLt : ∀ p, p ∈ L ↔ p ∈ varList t) (hll : L.length ≤ 1000) :
  ∀ (k i : Nat), i + k = L.length → (∀ p ∈ L.take i, oneE env p = 0) →
  @Ok Out (runs T [.code b11_0, .inL (some 27) b11_0, .inB 0, .code k11_1] [(1, .lst e (env.map bdV)), (2, .lst d (m.map ceV)), (3, .ptr 0 1 0 0), (12, .map 22), (36, .lst false (L.map bd0)), (37, .int .i64 L.length), (38, .int .i64 i)] [(22, .mp (((L.take i).map (upE env)).map kvU)), (0, .row 6 [.agg [.int .u8 (t).k, .int .i64 (t).w, .int .u64 (t).b, .str (t).s, .int .i64 (t).lo, .lst (t).e ((t).l.map tV)]])] 27) (VQ t env m L) := by
 have mono := mono_of hg
 intro k
 induction k with
 |zero =>
  intro i hi hz
  have d1 : decide ((i : Int) < L.length) = false := by simp; omega
  rw [List.take_of_length_le (by omega)] at hz ⊢
  have hE : ∀ x ∈ nodesT t, x.k = 2 → rhoU (L.map (upE env)) x.s = rhoE env x.s := fun x hx hk => by
   unfold rhoU
   rw [lkU_mem ⟨(x.s, x.w), (hLt _).2 ?_, rfl⟩]; rfl
   have : ∀ xs : List Te, x ∈ xs → (x.s, x.w) ∈ varL xs := by
    intro xs
    induction xs with
    |nil => intro h; cases h
    |cons y ys ih =>
     intro h
     simp only [varL]
     rcases List.mem_cons.1 h with rfl | h
     ·rw [if_pos hk]; simp
     ·split
      ·exact List.mem_cons_of_mem _ (ih h)
      ·exact ih h
   exact this _ hx
  have hvar : ∀ x ∈ nodesT t, x.k = 2 → (x.s, x.w) ∈ L := fun x hx hk => by
   refine (hLt _).2 ?_
   have : ∀ xs : List Te, x ∈ xs → (x.s, x.w) ∈ varL xs := by
    intro xs
    induction xs with
    |nil => intro h; cases h
    |cons y ys ih =>
     intro h
     simp only [varL]
     rcases List.mem_cons.1 h with rfl | h
     ·rw [if_pos hk]; simp
     ·split
      ·exact List.mem_cons_of_mem _ (ih h)
      ·exact ih h
   exact this _ hx
  have hb : boundR (rhoU (L.map (upE env))) t := fun x hxn hk => by
   rw [hE x hxn hk]
   have h1 := hz _ (hvar x hxn hk)
   unfold oneE at h1
   unfold rhoE
   cases hq : boundS env x.s with
   |none => rw [hq] at h1; cases h1
   |some q =>
    rw [hq] at h1
    simp only at h1 ⊢
    split at h1
    ·rename_i hw
     obtain ⟨q1, q2, q3⟩ := bound_bd hx hq
     obtain ⟨j, hj, rfl⟩ := List.mem_iff_getElem.1 q1
     have hgj := (hg j hj).2.1
     have ej : env.getD j ([], 0, 0) = env[j] := by simp [List.getD, hj]
     rw [ej, hw] at hgj
     exact okS_nat hgj q3
    ·cases h1
  have hv := fun nx (hnx : 22 < nx) => value_spec (L.map (upE env)) 22 d m hm hms t hn ht hb [(22, .mp ((L.map (upE env)).map kvU)), (0, .row 6 [.agg [.int .u8 (t).k, .int .i64 (t).w, .int .u64 (t).b, .str (t).s, .int .i64 (t).lo, .lst (t).e ((t).l.map tV)]])] nx hnx rfl
  have hcg : vM (rhoU (L.map (upE env))) m t = vM (rhoE env) m t := valT_congr t hE
  rw [hcg] at hv
  have hf := firstE_all hz
  simp (disch := first | omega | (simp only [EVL] <;> omega) | (simp only [hget_c, Nat.reduceEqDiff, ↓reduceIte]; done) | assumption | (simp (disch := omega) only [hg_ne, hg_eq, hgs_ne, *]; done) | (simp only [TL, LAWSm, EnL, LAWSb]; done) | with_unfolding_all rfl) only [unf b11_0.eq_1, unf k11_1.eq_1, c11, d1, TL, EVS, Nat.reduceAdd, Nat.reduceSub, Int.reduceToNat, Nat.reduceMul, Nat.reduceEqDiff, Nat.reduceLeDiff, Int.reduceEq, Int.reduceLT, Int.reduceLE, ↓reduceIte]
  refine Ok_call (hv _ (by omega)) fun r hr => ?_
  obtain ⟨v, h', nx'⟩ := r
  obtain ⟨rfl, e1, e2⟩ := hr
  refine ⟨rfl, ?_⟩
  simp (disch := first | omega | (simp only [EVL] <;> omega) | (simp only [hget_c, Nat.reduceEqDiff, ↓reduceIte]; done) | assumption | (simp (disch := omega) only [hg_ne, hg_eq, hgs_ne, *]; done) | (simp only [TL, LAWSm, EnL, LAWSb]; done) | with_unfolding_all rfl) only [c11, EVS, Nat.reduceAdd, Nat.reduceSub, Int.reduceToNat, Nat.reduceMul, Nat.reduceEqDiff, Nat.reduceLeDiff, Int.reduceEq, Int.reduceLT, Int.reduceLE, ↓reduceIte]
  rw [hf, if_pos rfl]
 |succ k ih =>
  intro i hi hz
  have hil : i < L.length := by omega
  have d1 : decide ((i : Int) < L.length) = true := by simp; omega
  have ei : (i : Int) + 1 = ((i + 1 : Nat) : Int) := by omega
  obtain ⟨r, ⟨j, hj, lo, hi', rfl⟩, hr⟩ := search_spec e env (L.getD i ([], 0)).1 (by omega) mono
  have hbd := bound_at mono lo hi'
  have hfat : oneE env (L.getD i ([], 0)) ≠ 0 → firstE env L = oneE env (L.getD i ([], 0)) := fun hne => by
   have hLd : L = L.take i ++ L.getD i ([], 0) :: L.drop (i + 1) := by
    rw [← drop_getD' hil]; exact (List.take_append_drop i L).symm
   rw [hLd, firstE_at hne hz, ← hLd]
  by_cases hc : j < env.length ∧ (env.getD j ([], 0, 0)).1 = (L.getD i ([], 0)).1
  ·rw [if_pos hc] at hbd
   have hjl := hc.1
   by_cases hw : (env.getD j ([], 0, 0)).2.1 = (L.getD i ([], 0)).2
   ·have ho : oneE env (L.getD i ([], 0)) = 0 := by unfold oneE; rw [hbd]; exact if_pos hw
    have hru : rhoE env (L.getD i ([], 0)).1 = (env.getD j ([], 0, 0)).2.2.toNat := by unfold rhoE; rw [hbd]
    have hx0 := (hx _ (getD_mem (d := ([], 0, 0)) hjl)).1
    have hu := upd_U (L.getD i ([], 0)).1 (rhoE env (L.getD i ([], 0)).1) ((L.take i).map (upE env)) (lkU_fresh (SL_name hL hil))
    rw [hru, Int.toNat_of_nonneg hx0] at hu
    simp (disch := first | omega | (simp only [EVL] <;> omega) | (simp only [hget_c, Nat.reduceEqDiff, ↓reduceIte]; done) | assumption | (simp (disch := omega) only [hg_ne, hg_eq, hgs_ne, *]; done) | (simp only [TL, LAWSm, EnL, LAWSb]; done) | with_unfolding_all rfl) only [unf b11_0.eq_1, c11, d1, ei, LAWSb, EnL, hr, hc, hw, hu, decide_true, EVS, Nat.reduceAdd, Nat.reduceSub, Int.reduceToNat, Nat.reduceMul, Nat.reduceEqDiff, Nat.reduceLeDiff, Int.reduceEq, Int.reduceLT, Int.reduceLE, ↓reduceIte]
    have hE : (L.take i).map (upE env) ++ [((L.getD i ([], 0)).1, (env.getD j ([], 0, 0)).2.2.toNat)] = (L.take (i + 1)).map (upE env) := by
     rw [take_succ' hil, List.map_append]; simp only [upE, List.map_cons, List.map_nil, hru]
    rw [hE]
    have hlo : lows 27 (env.map bdV) = true := lo_e 27 env
    have hlm : lows 27 (m.map ceV) = true := lo_m 27 m
    have hlb : lows 27 (L.map bd0) = true := lo_b0 27 L
    have hlt : lows 27 (t.l.map tV) = true := lo_Ts 27 t.l
    have hlu := lo_u 27 ((L.take (i + 1)).map (upE env))
    refine Ok_inL (by decide) (by simp [lowTm, low, hlo, hlm, hlb]) (by show (((((L.take (i + 1)).map (upE env)).map kvU).all fun e => low 27 e.1 && low 27 e.2) && (lows 27 [.agg [.int .u8 (t).k, .int .i64 (t).w, .int .u64 (t).b, .str (t).s, .int .i64 (t).lo, .lst (t).e ((t).l.map tV)]] && true)) = true; rw [hlu]; simp [lows, low, hlt]) (ih (i + 1) (by omega) (fun p hp => ?_))
    rw [take_succ' hil, List.mem_append, List.mem_singleton] at hp
    rcases hp with hp | rfl
    ·exact hz p hp
    ·exact ho
   ·have ho : oneE env (L.getD i ([], 0)) = 14 := by unfold oneE; rw [hbd]; exact if_neg hw
    have hf : firstE env L = 14 := by rw [hfat (by rw [ho]; decide), ho]
    have hd : decide ((env.getD j ([], 0, 0)).2.1 = (L.getD i ([], 0)).2) = false := decide_eq_false hw
    simp (disch := first | omega | (simp only [EVL] <;> omega) | (simp only [hget_c, Nat.reduceEqDiff, ↓reduceIte]; done) | assumption | (simp (disch := omega) only [hg_ne, hg_eq, hgs_ne, *]; done) | (simp only [TL, LAWSm, EnL, LAWSb]; done) | with_unfolding_all rfl) only [unf b11_0.eq_1, c11, d1, ei, LAWSb, EnL, hr, hc, hd, decide_true, EVS, Nat.reduceAdd, Nat.reduceSub, Int.reduceToNat, Nat.reduceMul, Nat.reduceEqDiff, Nat.reduceLeDiff, Int.reduceEq, Int.reduceLT, Int.reduceLE, ↓reduceIte]
    rw [hf]; rfl
  ·rw [if_neg hc] at hbd
   have ho : oneE env (L.getD i ([], 0)) = 16 := by unfold oneE; rw [hbd]
   have hf : firstE env L = 16 := by rw [hfat (by rw [ho]; decide), ho]
   simp (disch := first | omega | (simp only [EVL] <;> omega) | (simp only [hget_c, Nat.reduceEqDiff, ↓reduceIte]; done) | assumption | (simp (disch := omega) only [hg_ne, hg_eq, hgs_ne, *]; done) | (simp only [TL, LAWSm, EnL, LAWSb]; done) | with_unfolding_all rfl) only [unf b11_0.eq_1, c11, d1, ei, LAWSb, EnL, hr, hc, decide_false, EVS, Nat.reduceAdd, Nat.reduceSub, Int.reduceToNat, Nat.reduceMul, Nat.reduceEqDiff, Nat.reduceLeDiff, Int.reduceEq, Int.reduceLT, Int.reduceLE, ↓reduceIte]
   rw [hf]; rfl
theorem check_size' {t : Te} (h : checkS t = 0) : size t ≤ 400 := by
 unfold checkS at h
 split at h
 ·cases h
 ·omega
theorem nodes_of_check {t : Te} (h : checkS t = 0) : nodesOk t ∧ ∃ en, varsE t = .inl en := by
 unfold checkS at h
 split at h
 ·cases h
 ·split at h
  ·split at h
   ·rename_i hn _ en he; exact ⟨hn, en, he⟩
   ·cases h
  ·cases h
theorem insE_len (t : Te) : (insE [] (varList t)).length ≤ size t := by
 have h2 : ∀ (L out : Env0), (insE out L).length ≤ out.length + L.length := by
  intro L
  induction L with
  |nil => intro out; exact Nat.le_refl _
  |cons p L ih => intro out; have := ih (stepE out p); have := stepE_len out p; simp only [insE, List.length_cons]; omega
 have h3 := h2 (varList t) []
 have h4 : (varList t).length ≤ size t := by have := varL_len (nodesT t); rw [nodesT_len] at this; exact this
 simp only [List.length_nil] at h3
 omega
theorem memS_of {m : Mem} (h : chkM m = 0) : memS m := by
 unfold chkM at h
 split at h
 ·assumption
 ·cases h
theorem valueF_spec (e d : Bool) (t : Te) (ht : TOk t) (hs : size t ≤ 1000000) (hk : KOk t) (env : Env) (hl : env.length ≤ 1100) (hx : ∀ p ∈ env, 0 ≤ p.2.2 ∧ p.2.2 ≤ 18446744073709551615) (m : Mem) (hm : okM m) (h0 : m.length ≤ 9223372036854775807) (h : Heap) (nx : Nat) : isfR T c11 [.agg [.int .u8 (t).k, .int .i64 (t).w, .int .u64 (t).b, .str (t).s, .int .i64 (t).lo, .lst (t).e ((t).l.map tV)], .lst e (env.map bdV), .lst d (m.map ceV)] h nx = some (valV t env m, h, nx) := by
 have c1 := vars_spec t hs hk
 have c2 := checkB_spec e env hl
 have c3 := checkCells_spec d m h0
 refine isfR_of rfl ?_
 unfold valV valErr
 by_cases k1 : checkS t = 0
 ·rw [if_pos k1]
  have hv : varsV false t = .tup [.lst false ((insE [] (varList t)).map bd0), .int .i64 0] := if_pos k1
  rw [hv] at c1
  by_cases k2 : chkB env = 0
  ·rw [if_pos k2]
   by_cases k3 : chkM m = 0
   ·rw [if_pos k3]
    obtain ⟨hn, en, he⟩ := nodes_of_check k1
    obtain ⟨hl2, hg⟩ := chkB_good k2
    obtain ⟨q1, q2⟩ := insE_spec (varList t) [] [] List.Pairwise.nil (fun _ => Iff.rfl) (by simpa using (varsE_in he).1)
    have hsz := check_size' k1
    have hil := insE_len t
    simp (disch := first | omega | (simp only [EVL] <;> omega) | (simp only [hget_c, Nat.reduceEqDiff, ↓reduceIte]; done) | assumption | (simp (disch := omega) only [hg_ne, hg_eq, hgs_ne, *]; done) | (simp only [TL, LAWSm, EnL, LAWSb]; done) | with_unfolding_all rfl) only [c11, TL, c1, c2, c3, k2, k3, EVS, Nat.reduceAdd, Nat.reduceSub, Int.reduceToNat, Nat.reduceMul, Nat.reduceEqDiff, Nat.reduceLeDiff, Int.reduceEq, Int.reduceLT, Int.reduceLE, ↓reduceIte]
    exact valF_loop e d env m hm (memS_of k3) hl2 hx hg t hn ht hs _ q1 (fun p => by rw [q2]; simp) (by omega) (insE [] (varList t)).length 0 (by omega) (fun p hp => by simp at hp)
   ·rw [if_neg k3]
    have k3' : chkM m = 8 := by
     unfold chkM at k3 ⊢
     split at k3
     ·exact absurd rfl k3
     ·rename_i hh; rw [if_neg hh]
    simp (disch := first | omega | (simp only [EVL] <;> omega) | (simp only [hget_c, Nat.reduceEqDiff, ↓reduceIte]; done) | assumption | (simp (disch := omega) only [hg_ne, hg_eq, hgs_ne, *]; done) | (simp only [TL, LAWSm, EnL, LAWSb]; done) | with_unfolding_all rfl) only [c11, TL, c1, c2, c3, k2, k3', EVS, Nat.reduceAdd, Nat.reduceSub, Int.reduceToNat, Nat.reduceMul, Nat.reduceEqDiff, Nat.reduceLeDiff, Int.reduceEq, Int.reduceLT, Int.reduceLE, ↓reduceIte]
    rfl
  ·rw [if_neg k2]
   have k2' := chkB_bad k2
   simp (disch := first | omega | (simp only [EVL] <;> omega) | (simp only [hget_c, Nat.reduceEqDiff, ↓reduceIte]; done) | assumption | (simp (disch := omega) only [hg_ne, hg_eq, hgs_ne, *]; done) | (simp only [TL, LAWSm, EnL, LAWSb]; done) | with_unfolding_all rfl) only [c11, TL, c1, c2, k2', EVS, Nat.reduceAdd, Nat.reduceSub, Int.reduceToNat, Nat.reduceMul, Nat.reduceEqDiff, Nat.reduceLeDiff, Int.reduceEq, Int.reduceLT, Int.reduceLE, ↓reduceIte]
   rfl
 ·rw [if_neg k1]
  have hv : varsV false t = .tup [.lst true [], .int .i64 (checkS t)] := if_neg k1
  rw [hv] at c1
  have d1 : decide (checkS t = 0) = false := decide_eq_false k1
  simp (disch := first | omega | (simp only [EVL] <;> omega) | (simp only [hget_c, Nat.reduceEqDiff, ↓reduceIte]; done) | assumption | (simp (disch := omega) only [hg_ne, hg_eq, hgs_ne, *]; done) | (simp only [TL, LAWSm, EnL, LAWSb]; done) | with_unfolding_all rfl) only [c11, TL, c1, d1, EVS, Nat.reduceAdd, Nat.reduceSub, Int.reduceToNat, Nat.reduceMul, Nat.reduceEqDiff, Nat.reduceLeDiff, Int.reduceEq, Int.reduceLT, Int.reduceLE, ↓reduceIte]
  rw [if_neg k1]; rfl
theorem valueF_lim (a b c : FV) (h : Heap) (nx : Nat) : lim T 11 [a, b, c] h nx = @FI.B (List FV) (FV × Heap × Nat) (frzs h deep [a, b, c]) ⟨fun q => isfR T c11 q h nx⟩ := lim_isf tg11 rfl rfl
theorem valueF_pure (e d : Bool) (t : Te) (ht : TOk t) (hs : size t ≤ 1000000) (hk : KOk t) (env : Env) (hl : env.length ≤ 1100) (hx : ∀ p ∈ env, 0 ≤ p.2.2 ∧ p.2.2 ≤ 18446744073709551615) (m : Mem) (hm : okM m) (h0 : m.length ≤ 9223372036854775807) : ∀ h nx, lim T 11 [.agg [.int .u8 (t).k, .int .i64 (t).w, .int .u64 (t).b, .str (t).s, .int .i64 (t).lo, .lst (t).e ((t).l.map tV)], .lst e (env.map bdV), .lst d (m.map ceV)] h nx = some (valV t env m, h, nx) := by
 intro h nx
 rw [valueF_lim, frzs_pure (by simp [pures, pure_, pu_Ts, pu_e, pu_m]) (show (3 : Nat) ≤ deep by decide), B_some]
 exact valueF_spec e d t ht hs hk env hl hx m hm h0 h nx

def isTrue : Option (FV × Heap × Nat) → Bool
 |some (.bool true, _, _) => true
 |_ => false
theorem isTrue_some {x : Option (FV × Heap × Nat)} (h : isTrue x = true) : ∃ h' nx, x = some (.bool true, h', nx) := by
 match x, h with
 |some (.bool true, h', nx), _ => exact ⟨h', nx, rfl⟩
set_option maxRecDepth 1000000 in
theorem law_true : isTrue (FI.call T 10000 19 [] [] 0) = true := by kernel_rfl
theorem alive_iso (h : Heap) (nx : Nat) : lim T 19 [] h nx = some (.bool true, h, nx) := by
 obtain ⟨h', nx', hl⟩ := isTrue_some law_true
 have hl := le_lim T _ _ _ _ _ _ hl
 exact lim_iso_any tg19 rfl hl (by decide) h nx

theorem varsE_sub {t x : Te} (hx : x ∈ t.l) {en : Env0} (h : varsE t = .inl en) : ∃ en', varsE x = .inl en' := by
 cases hv : varsE x with
 |inl en' => exact ⟨en', rfl⟩
 |inr u =>
  refine absurd ((varsE_in h).1.sub fun p hp => ?_) (varsE_no hv)
  have : ∀ ys : List Te, p ∈ varL ys → ∃ y ∈ ys, y.k = 2 ∧ p = (y.s, y.w) := by
   intro ys
   induction ys with
   |nil => intro h; cases h
   |cons y ys ih =>
    intro h
    simp only [varL] at h
    split at h
    ·rename_i hk
     rcases List.mem_cons.1 h with rfl | h
     ·exact ⟨y, by simp, hk, rfl⟩
     ·obtain ⟨z, hz, h2⟩ := ih h; exact ⟨z, by simp [hz], h2⟩
    ·obtain ⟨z, hz, h2⟩ := ih h; exact ⟨z, by simp [hz], h2⟩
  obtain ⟨y, hy, hk, rfl⟩ := this _ hp
  have h2 : ∀ ys : List Te, y ∈ ys → (y.s, y.w) ∈ varL ys := by
   intro ys
   induction ys with
   |nil => intro h; cases h
   |cons z ys ih =>
    intro h
    simp only [varL]
    rcases List.mem_cons.1 h with rfl | h
    ·rw [if_pos hk]; simp
    ·split
     ·exact List.mem_cons_of_mem _ (ih h)
     ·exact ih h
  exact h2 _ (nodes_sub hx hy)
theorem varList_sub {t x : Te} (hx : x ∈ t.l) {p : List UInt8 × Int} (hp : p ∈ varList x) : p ∈ varList t := by
 have : ∀ ys zs : List Te, (∀ y ∈ ys, y ∈ zs) → p ∈ varL ys → p ∈ varL zs := by
  intro ys zs hs h
  have h1 : ∀ ys : List Te, p ∈ varL ys → ∃ y ∈ ys, y.k = 2 ∧ p = (y.s, y.w) := by
   intro ys
   induction ys with
   |nil => intro h; cases h
   |cons y ys ih =>
    intro h
    simp only [varL] at h
    split at h
    ·rename_i hk
     rcases List.mem_cons.1 h with rfl | h
     ·exact ⟨y, by simp, hk, rfl⟩
     ·obtain ⟨z, hz, h2⟩ := ih h; exact ⟨z, by simp [hz], h2⟩
    ·obtain ⟨z, hz, h2⟩ := ih h; exact ⟨z, by simp [hz], h2⟩
  obtain ⟨y, hy, hk, rfl⟩ := h1 ys h
  have h2 : ∀ ys : List Te, y ∈ ys → (y.s, y.w) ∈ varL ys := by
   intro ys
   induction ys with
   |nil => intro h; cases h
   |cons z ys ih =>
    intro h
    simp only [varL]
    rcases List.mem_cons.1 h with rfl | h
    ·rw [if_pos hk]; simp
    ·split
     ·exact List.mem_cons_of_mem _ (ih h)
     ·exact ih h
  exact h2 _ (hs y hy)
 exact this _ _ (fun y hy => nodes_sub hx hy) hp
theorem check_sub {t x : Te} (hx : x ∈ t.l) (h : checkS t = 0) : checkS x = 0 := by
 obtain ⟨hn, en, he⟩ := nodes_of_check h
 obtain ⟨en', he'⟩ := varsE_sub hx he
 have h1 : size x ≤ 400 ∧ depth x ≤ 60 := by
  unfold checkS at h
  split at h
  ·cases h
  ·have := size_mem hx
   have := depths_mem hx
   have := depth_eq t
   omega
 unfold checkS
 rw [if_neg (by omega), if_pos (((nodesOk_iff t).1 hn).2 x hx), he']
theorem mem_insE {t : Te} {en : Env0} (h : varsE t = .inl en) (p : List UInt8 × Int) : p ∈ insE [] (varList t) ↔ p ∈ varList t := by
 have := (insE_spec (varList t) [] [] List.Pairwise.nil (fun _ => Iff.rfl) (by simpa using (varsE_in h).1)).2 p
 simpa using this
theorem valErr_zero {t : Te} {env : Env} {m : Mem} (h : valErr t env m = 0) : checkS t = 0 ∧ chkB env = 0 ∧ chkM m = 0 ∧ ∀ p ∈ varList t, oneE env p = 0 := by
 unfold valErr at h
 split at h
 ·rename_i h1
  split at h
  ·rename_i h2
   split at h
   ·rename_i h3
    obtain ⟨_, en, he⟩ := nodes_of_check h1
    exact ⟨h1, h2, h3, fun p hp => firstE_zero h p ((mem_insE he p).2 hp)⟩
   ·cases h
  ·cases h
 ·rename_i h1; exact absurd h h1
theorem valErr_of {t : Te} {env : Env} {m : Mem} (h1 : checkS t = 0) (h2 : chkB env = 0) (h3 : chkM m = 0) (h4 : ∀ p ∈ varList t, oneE env p = 0) : valErr t env m = 0 := by
 obtain ⟨_, en, he⟩ := nodes_of_check h1
 unfold valErr
 rw [if_pos h1, if_pos h2, if_pos h3]
 exact firstE_all fun p hp => h4 p ((mem_insE he p).1 hp)
theorem valErr_sub {t x : Te} (hx : x ∈ t.l) {env : Env} {m : Mem} (h : valErr t env m = 0) : valErr x env m = 0 := by
 obtain ⟨h1, h2, h3, h4⟩ := valErr_zero h
 exact valErr_of (check_sub hx h1) h2 h3 fun p hp => h4 p (varList_sub hx hp)
theorem boundE {t : Te} {env : Env} {m : Mem} (hx : ∀ p ∈ env, 0 ≤ p.2.2 ∧ p.2.2 ≤ 18446744073709551615) (h : valErr t env m = 0) : boundR (rhoE env) t := by
 obtain ⟨h1, h2, h3, h4⟩ := valErr_zero h
 obtain ⟨_, hg⟩ := chkB_good h2
 intro x hxn hk
 have hm : (x.s, x.w) ∈ varList t := by
  have : ∀ xs : List Te, x ∈ xs → (x.s, x.w) ∈ varL xs := by
   intro xs
   induction xs with
   |nil => intro h; cases h
   |cons y ys ih =>
    intro h
    simp only [varL]
    rcases List.mem_cons.1 h with rfl | h
    ·rw [if_pos hk]; simp
    ·split
     ·exact List.mem_cons_of_mem _ (ih h)
     ·exact ih h
  exact this _ hxn
 have h1 := h4 _ hm
 unfold oneE at h1
 unfold rhoE
 cases hq : boundS env x.s with
 |none => rw [hq] at h1; cases h1
 |some q =>
  rw [hq] at h1
  simp only at h1 ⊢
  split at h1
  ·rename_i hw
   obtain ⟨q1, q2, q3⟩ := bound_bd hx hq
   obtain ⟨j, hj, rfl⟩ := List.mem_iff_getElem.1 q1
   have hgj := (hg j hj).2.1
   have ej : env.getD j ([], 0, 0) = env[j] := by simp [List.getD, hj]
   rw [ej, hw] at hgj
   exact okS_nat hgj q3
  ·cases h1

theorem lows_of {b : Nat} : ∀ {l : List FV}, (∀ v ∈ l, low b v = true) → lows b l = true := by
 intro l
 induction l with
 |nil => intro _; rfl
 |cons v l ih => intro h; simp only [lows, Bool.and_eq_true]; exact ⟨h v (by simp), ih fun w hw => h w (by simp [hw])⟩
theorem tco_loop {e d} (env : Env) (m : Mem) (t : Te) (X : Nat) (hl3 : t.l.length ≤ 3)
  (hp : ∀ i, i < t.l.length → ∀ h nx, lim T 11 [.agg [.int .u8 (t.l.getD i default).k, .int .i64 (t.l.getD i default).w, .int .u64 (t.l.getD i default).b, .str (t.l.getD i default).s, .int .i64 (t.l.getD i default).lo, .lst (t.l.getD i default).e ((t.l.getD i default).l.map tV)], .lst e (env.map bdV), .lst d (m.map ceV)] h nx = some (.tup [.int .u64 (vM (rhoE env) m (t.l.getD i default) : Nat), .int .i64 0], h, nx)) (Q : Post Out)
  (next : ∀ (cs : List FV) nx, cs.length = 3 → (∀ j, j < t.l.length → cs[j]? = some (.int .u64 (vM (rhoE env) m (t.l.getD j default) : Nat))) →
   @Ok Out (runs T [.code k4_1] [(1, .lst e (env.map bdV)), (2, .lst d (m.map ceV)), (3, .ptr 0 1 0 0), (7, .bool true), (8, .int .u64 X), (10, .ptr 32 1 0 0), (11, .int .i64 t.l.length), (68, .bool false)] [(32, .row 3 [.agg cs]), (0, .row 6 [.agg [.int .u8 (t).k, .int .i64 (t).w, .int .u64 (t).b, .str (t).s, .int .i64 (t).lo, .lst (t).e ((t).l.map tV)]])] nx) Q) :
  ∀ (k i : Nat) (cs : List FV), i + k = t.l.length → cs.length = 3 → (∀ j, j < i → cs[j]? = some (.int .u64 (vM (rhoE env) m (t.l.getD j default) : Nat))) → (∀ v ∈ cs, ∃ x : Int, v = .int .u64 x) →
  @Ok Out (runs T [.code b4_0, .inL (some 34) b4_0, .inB 0, .code k4_1] [(1, .lst e (env.map bdV)), (2, .lst d (m.map ceV)), (3, .ptr 0 1 0 0), (7, .bool true), (8, .int .u64 X), (10, .ptr 32 1 0 0), (11, .int .i64 i)] [(32, .row 3 [.agg cs]), (0, .row 6 [.agg [.int .u8 (t).k, .int .i64 (t).w, .int .u64 (t).b, .str (t).s, .int .i64 (t).lo, .lst (t).e ((t).l.map tV)]])] 34) Q := by
 intro k
 induction k with
 |zero =>
  intro i cs hi hc hv ho
  have d1 : decide ((i : Int) < t.l.length) = false := by simp; omega
  have hi' : i = t.l.length := by omega
  simp (disch := first | omega | (simp only [EVL] <;> omega) | (simp only [hget_c, Nat.reduceEqDiff, ↓reduceIte]; done) | assumption | (simp (disch := omega) only [hg_ne, hg_eq, hgs_ne, *]; done) | (simp only [TL, LAWSm, EnL]; done) | with_unfolding_all rfl) only [unf b4_0.eq_1, c4, d1, TL, EVS, Nat.reduceAdd, Nat.reduceSub, Int.reduceToNat, Nat.reduceMul, Nat.reduceEqDiff, Nat.reduceLeDiff, Int.reduceEq, Int.reduceLT, Int.reduceLE, ↓reduceIte]
  subst hi'
  exact next cs _ hc (fun j hj => hv j (by omega))
 |succ k ih =>
  intro i cs hi hc hv ho
  have d1 : decide ((i : Int) < t.l.length) = true := by simp; omega
  have d2 : decide ((2 : Int) < i) = false := by simp; omega
  have hil : i < t.l.length := by omega
  have hi3 : i < cs.length := by omega
  have hsp : List.take (i * 1) cs ++ [FV.int .u64 (vM (rhoE env) m (t.l.getD i default) : Nat)] ++ List.drop (i * 1 + 1) cs = cs.set i (.int .u64 (vM (rhoE env) m (t.l.getD i default) : Nat)) := by
   rw [Nat.mul_one, List.set_eq_take_append_cons_drop, if_pos hi3]; simp
  have hlo : ∀ x : Int, lows 34 (cs.set i (.int .u64 x)) = true := fun x => by
   refine lows_of fun v hv' => ?_
   rcases (List.mem_or_eq_of_mem_set hv').symm with rfl | h
   ·rfl
   ·obtain ⟨y, rfl⟩ := ho v h; rfl
  simp (disch := first | omega | (simp only [EVL] <;> omega) | (simp only [hget_c, Nat.reduceEqDiff, ↓reduceIte]; done) | assumption | (simp (disch := omega) only [hg_ne, hg_eq, hgs_ne, *]; done) | (simp only [TL, LAWSm, EnL]; done) | with_unfolding_all rfl) only [unf b4_0.eq_1, c4, d1, d2, TL, hp, hc, hsp, hlo, EVS, Nat.reduceAdd, Nat.reduceSub, Int.reduceToNat, Nat.reduceMul, Nat.reduceEqDiff, Nat.reduceLeDiff, Int.reduceEq, Int.reduceLT, Int.reduceLE, ↓reduceIte]
  exact Ok_inL (by decide) (by simp [lowTm, low, lows, TL, LAWSm, EnL]) (by simp [cutH, lowHeap, lowObj, lows, low, TL, hlo]) (ih (i + 1) _ (by omega) (by rw [List.length_set]; exact hc) (fun j hj => by
   by_cases hji : j = i
   ·subst hji; rw [List.getElem?_set_self hi3]
   ·rw [List.getElem?_set_ne (by omega)]; exact hv j (by omega)) (fun v hv' => by
   rcases (List.mem_or_eq_of_mem_set hv').symm with rfl | h
   ·exact ⟨_, rfl⟩
   ·exact ho v h))
theorem okB_true {w x : Int} (h : okS w x) : ∀ h' nx, lim T 20 [.int .i64 w, .int .u64 x] h' nx = some (.bool true, h', nx) := fun h' nx => by
 rw [okB_spec]; simp [h]
theorem tco_fin {e d} (env : Env) (m : Mem) (hm : okM m) (h0 : m.length ≤ 9223372036854775807) (hms : memS m) (t : Te) (hn : nodesOk t) (ht : TOk t) (hρ : boundR (rhoE env) t) (hpos : 0 < t.l.length) (cs : List FV) (nx : Nat) (hv : ∀ j, j < t.l.length → cs[j]? = some (.int .u64 (vM (rhoE env) m (t.l.getD j default) : Nat))) :
  @Ok Out (runs T [.code k4_1] [(1, .lst e (env.map bdV)), (2, .lst d (m.map ceV)), (3, .ptr 0 1 0 0), (7, .bool true), (8, .int .u64 (vM (rhoE env) m t : Nat)), (10, .ptr 32 1 0 0), (11, .int .i64 t.l.length), (68, .bool false)] [(32, .row 3 [.agg cs]), (0, .row 6 [.agg [.int .u8 (t).k, .int .i64 (t).w, .int .u64 (t).b, .str (t).s, .int .i64 (t).lo, .lst (t).e ((t).l.map tV)]])] nx) ⟨fun x => resV c4.res x = some (.bool true)⟩ := by
 have hself := (nodesOk_iff t).1 hn
 have hb := ht.self.2.2.1
 have hvl := val_lt hm t hn ht hρ
 have hw := (hself.1).1
 have zw : ((t.w.toNat : Nat) : Int) = t.w := Int.toNat_of_nonneg (by unfold wideS at hw; omega)
 have hok : okS t.w (vM (rhoE env) m t : Nat) := by
  unfold wideS at hw
  have h2 : ((vM (rhoE env) m t : Nat) : Int) < 2 ^ t.w.toNat := by rw [← pow_nat]; omega
  exact ⟨hw.1, hw.2, h2⟩
 have hsub : ∀ i, i < t.l.length → vM (rhoE env) m (t.l.getD i default) < 2 ^ (t.l.getD i default).w.toNat ∧ 1 ≤ (t.l.getD i default).w ∧ (t.l.getD i default).w ≤ 64 := fun i hi => by
  have hmem := getD_mem (d := (default : Te)) hi
  exact ⟨val_lt hm _ (hself.2 _ hmem) (ht.sub hmem) (fun x hx => hρ x (nodes_sub hmem hx)), (hself.2 _ hmem _ (mem_nodes _)).1⟩
 have hvm : vM (rhoE env) m t = vop (ldN m) t.k t.w t.b t.lo (rhoE env t.s) (t.l.map Tm'.w) (t.l.map (vM (rhoE env) m)) := valT_eq (rhoE env) (ldN m) t
 have z0 : ∀ i, i < t.l.length → (((t.l.getD i default).w.toNat : Nat) : Int) = (t.l.getD i default).w := fun i hi => Int.toNat_of_nonneg (by have := hsub i hi; omega)
 have hk24 : 1 ≤ t.k ∧ t.k ≤ 24 := by
  rcases Int.lt_or_le t.k 1 with h | h
  ·exact absurd hself.1 (node_no (.inl h))
  ·rcases Int.lt_or_le 24 t.k with h' | h'
   ·exact absurd hself.1 (node_no (.inr h'))
   ·exact ⟨h, h'⟩
 have k1 : ¬ t.k = 1 := fun h => by
  have := ((node_k1 h).1 hself.1)
  omega
 have k2 : ¬ t.k = 2 := fun h => by
  have := ((node_k2 h).1 hself.1)
  omega
 by_cases k3 : t.k = 3 ∨ t.k = 4
 ·obtain ⟨_, _, _, _, hl, hs⟩ := (node_k34 k3).1 hself.1
  have w0 := hsub 0 (by omega)
  have c0 : cellsAt cs none 0 = _ := hv 0 (by omega)
  have hu := unary_spec t.k (t.l.getD 0 default).w.toNat _ k3 (by omega) (by omega) w0.1
  rw [z0 0 (by omega)] at hu
  have hx := hvm
  rw [vop, if_neg k1, if_neg k2, if_pos k3, mp0 (by omega), mpw (by omega)] at hx
  rcases k3 with k3 | k3
  ·rw [k3] at hu hx
   rw [hx] at hok
   rw [hx]
   have hok := okB_true hok
   simp (disch := first | omega | (simp only [EVL] <;> omega) | (simp only [hget_c, Nat.reduceEqDiff, ↓reduceIte]; done) | assumption | (simp (disch := omega) only [hg_ne, hg_eq, hgs_ne, *]; done) | (simp only [TL, LAWSm, EnL]; done) | with_unfolding_all rfl) only [unf k4_1.eq_1, c4, TL, k3, c0, hu, hok, EVS, Nat.reduceAdd, Nat.reduceSub, Int.reduceToNat, Nat.reduceMul, Nat.reduceEqDiff, Nat.reduceLeDiff, Int.reduceEq, Int.reduceLT, Int.reduceLE, ↓reduceIte]
  ·rw [k3] at hu hx
   rw [hx] at hok
   rw [hx]
   have hok := okB_true hok
   simp (disch := first | omega | (simp only [EVL] <;> omega) | (simp only [hget_c, Nat.reduceEqDiff, ↓reduceIte]; done) | assumption | (simp (disch := omega) only [hg_ne, hg_eq, hgs_ne, *]; done) | (simp only [TL, LAWSm, EnL]; done) | with_unfolding_all rfl) only [unf k4_1.eq_1, c4, TL, k3, c0, hu, hok, EVS, Nat.reduceAdd, Nat.reduceSub, Int.reduceToNat, Nat.reduceMul, Nat.reduceEqDiff, Nat.reduceLeDiff, Int.reduceEq, Int.reduceLT, Int.reduceLE, ↓reduceIte]
 by_cases k19 : t.k = 19
 ·obtain ⟨_, _, _, _, hl, hs, _, _⟩ := (node_k19 k19).1 hself.1
  have w0 := hsub 0 (by omega)
  have c0 : cellsAt cs none 0 = _ := hv 0 (by omega)
  have c1 : cellsAt cs none 1 = _ := hv 1 (by omega)
  have c2 : cellsAt cs none 2 = _ := hv 2 (by omega)
  have hx := hvm
  rw [vop, if_neg k1, if_neg k2, if_neg k3, if_pos k19, mp0 (by omega), mp0 (by omega), mp0 (by omega)] at hx
  have ta : ((2 : Int) - ((0 : Nat) : Int)).toNat * 1 = 2 := rfl
  have tb : ((2 : Int) - ((1 : Nat) : Int)).toNat * 1 = 1 := rfl
  unfold subW at hs
  have zz0 : decide (((0 : Nat) : Int) = 1) = false := rfl
  have zz1 : decide (((1 : Nat) : Int) = 1) = true := rfl
  rw [hs] at w0
  have h01 : vM (rhoE env) m (t.l.getD 0 default) < 2 := w0.1
  rcases (by omega : vM (rhoE env) m (t.l.getD 0 default) = 0 ∨ vM (rhoE env) m (t.l.getD 0 default) = 1) with e0 | e0
  ·rw [e0] at c0 hx
   rw [if_neg (by omega)] at hx
   rw [hx] at hok
   rw [hx]
   have hok := okB_true hok
   simp (disch := first | omega | (simp only [EVL] <;> omega) | (simp only [hget_c, Nat.reduceEqDiff, ↓reduceIte]; done) | assumption | (simp (disch := omega) only [hg_ne, hg_eq, hgs_ne, *]; done) | (simp only [TL, LAWSm, EnL]; done) | with_unfolding_all rfl) only [unf k4_1.eq_1, c4, TL, k19, c0, c2, ta, zz0, hok, EVS, Nat.reduceAdd, Nat.reduceSub, Int.reduceToNat, Nat.reduceMul, Nat.reduceEqDiff, Nat.reduceLeDiff, Int.reduceEq, Int.reduceLT, Int.reduceLE, ↓reduceIte]
  ·rw [e0] at c0 hx
   rw [if_pos rfl] at hx
   rw [hx] at hok
   rw [hx]
   have hok := okB_true hok
   simp (disch := first | omega | (simp only [EVL] <;> omega) | (simp only [hget_c, Nat.reduceEqDiff, ↓reduceIte]; done) | assumption | (simp (disch := omega) only [hg_ne, hg_eq, hgs_ne, *]; done) | (simp only [TL, LAWSm, EnL]; done) | with_unfolding_all rfl) only [unf k4_1.eq_1, c4, TL, k19, c0, c1, c2, ta, tb, zz1, hok, EVS, Nat.reduceAdd, Nat.reduceSub, Int.reduceToNat, Nat.reduceMul, Nat.reduceEqDiff, Nat.reduceLeDiff, Int.reduceEq, Int.reduceLT, Int.reduceLE, ↓reduceIte]
 by_cases k20 : t.k = 20
 ·obtain ⟨_, _, _, _, hl, hw0, hw1, hs⟩ := (node_k20 k20).1 hself.1
  have w0 := hsub 0 (by omega)
  have w1 := hsub 1 (by omega)
  have c0 : cellsAt cs none 0 = _ := hv 0 (by omega)
  have c1 : cellsAt cs none 1 = _ := hv 1 (by omega)
  unfold wideS at hw
  unfold subW at hs
  have ew : t.w - (t.l.getD 0 default).w = (t.l.getD 1 default).w := by omega
  have hu := concat_spec (t.l.getD 0 default).w.toNat _ (t.l.getD 1 default).w.toNat _ (by omega) (by omega) (by omega) w0.1 w1.1
  rw [z0 0 (by omega), z0 1 (by omega)] at hu
  have hx := hvm
  rw [vop, if_neg k1, if_neg k2, if_neg k3, if_neg k19, if_pos k20, mp0 (by omega), mp0 (by omega), mpw (by omega)] at hx
  rw [hx] at hok
  rw [hx]
  have hok := okB_true hok
  simp (disch := first | omega | (simp only [EVL] <;> omega) | (simp only [hget_c, Nat.reduceEqDiff, ↓reduceIte]; done) | assumption | (simp (disch := omega) only [hg_ne, hg_eq, hgs_ne, *]; done) | (simp only [TL, LAWSm, EnL]; done) | with_unfolding_all rfl) only [unf k4_1.eq_1, c4, TL, k20, c0, c1, hu, ew, hok, EVS, Nat.reduceAdd, Nat.reduceSub, Int.reduceToNat, Nat.reduceMul, Nat.reduceEqDiff, Nat.reduceLeDiff, Int.reduceEq, Int.reduceLT, Int.reduceLE, ↓reduceIte]
 by_cases k21 : t.k = 21
 ·obtain ⟨_, _, _, _, hl, hlo, hw0, _, hs⟩ := (node_k21 k21).1 hself.1
  have w0 := hsub 0 (by omega)
  have c0 : cellsAt cs none 0 = _ := hv 0 (by omega)
  unfold wideS at hw
  unfold subW at hs
  have zl : ((t.lo.toNat : Nat) : Int) = t.lo := Int.toNat_of_nonneg hlo
  have hu := extract_spec (t.l.getD 0 default).w.toNat _ t.lo.toNat t.w.toNat (by omega) (by omega) w0.1 (by omega) (by omega)
  rw [z0 0 (by omega), zl, zw] at hu
  have hx := hvm
  rw [vop, if_neg k1, if_neg k2, if_neg k3, if_neg k19, if_neg k20, if_pos k21, mp0 (by omega)] at hx
  rw [hx] at hok
  rw [hx]
  have hok := okB_true hok
  simp (disch := first | omega | (simp only [EVL] <;> omega) | (simp only [hget_c, Nat.reduceEqDiff, ↓reduceIte]; done) | assumption | (simp (disch := omega) only [hg_ne, hg_eq, hgs_ne, *]; done) | (simp only [TL, LAWSm, EnL]; done) | with_unfolding_all rfl) only [unf k4_1.eq_1, c4, TL, k21, c0, hu, hok, EVS, Nat.reduceAdd, Nat.reduceSub, Int.reduceToNat, Nat.reduceMul, Nat.reduceEqDiff, Nat.reduceLeDiff, Int.reduceEq, Int.reduceLT, Int.reduceLE, ↓reduceIte]
 by_cases k22 : t.k = 22 ∨ t.k = 23
 ·obtain ⟨_, _, _, _, hl, hs⟩ := (node_k22 k22).1 hself.1
  have w0 := hsub 0 (by omega)
  have c0 : cellsAt cs none 0 = _ := hv 0 (by omega)
  unfold wideS at hw
  unfold subW at hs
  have hu := extend_spec (decide (t.k = 23)) (t.l.getD 0 default).w.toNat _ t.w.toNat (by omega) (by omega) (by omega) w0.1
  rw [z0 0 (by omega), zw] at hu
  have hx := hvm
  rw [vop, if_neg k1, if_neg k2, if_neg k3, if_neg k19, if_neg k20, if_neg k21, if_pos k22, mp0 (by omega), mpw (by omega)] at hx
  rcases k22 with k22 | k22
  ·rw [k22] at hu hx
   rw [show decide ((22 : Int) = 23) = false from rfl] at hu hx
   rw [hx] at hok
   rw [hx]
   have hok := okB_true hok
   simp (disch := first | omega | (simp only [EVL] <;> omega) | (simp only [hget_c, Nat.reduceEqDiff, ↓reduceIte]; done) | assumption | (simp (disch := omega) only [hg_ne, hg_eq, hgs_ne, *]; done) | (simp only [TL, LAWSm, EnL]; done) | with_unfolding_all rfl) only [unf k4_1.eq_1, c4, TL, k22, c0, hu, hok, EVS, Nat.reduceAdd, Nat.reduceSub, Int.reduceToNat, Nat.reduceMul, Nat.reduceEqDiff, Nat.reduceLeDiff, Int.reduceEq, Int.reduceLT, Int.reduceLE, ↓reduceIte]
  ·rw [k22] at hu hx
   rw [show decide ((23 : Int) = 23) = true from rfl] at hu hx
   rw [hx] at hok
   rw [hx]
   have hok := okB_true hok
   simp (disch := first | omega | (simp only [EVL] <;> omega) | (simp only [hget_c, Nat.reduceEqDiff, ↓reduceIte]; done) | assumption | (simp (disch := omega) only [hg_ne, hg_eq, hgs_ne, *]; done) | (simp only [TL, LAWSm, EnL]; done) | with_unfolding_all rfl) only [unf k4_1.eq_1, c4, TL, k22, c0, hu, hok, EVS, Nat.reduceAdd, Nat.reduceSub, Int.reduceToNat, Nat.reduceMul, Nat.reduceEqDiff, Nat.reduceLeDiff, Int.reduceEq, Int.reduceLT, Int.reduceLE, ↓reduceIte]
 by_cases k24 : t.k = 24
 ·obtain ⟨_, _, _, _, hl, hs⟩ := (node_k24 k24).1 hself.1
  have w0 := hsub 0 (by omega)
  have c0 : cellsAt cs none 0 = _ := hv 0 (by omega)
  unfold wideS at hw
  have h64 : 2 ^ (t.l.getD 0 default).w.toNat ≤ 2 ^ 64 := Nat.pow_le_pow_right (by decide) (by omega)
  have e64 : (2 : Nat) ^ 64 = 18446744073709551616 := rfl
  have hu := load_spec d m (t.l.getD 0 default).w (vM (rhoE env) m (t.l.getD 0 default) : Nat) t.w.toNat hm h0 (by omega) (by omega)
  unfold loadS at hu
  rw [if_pos hms, if_pos ⟨⟨w0.2.1, w0.2.2⟩, by rw [show ((t.w.toNat : Nat) : Int) = t.w from zw]; exact hs⟩, if_pos ⟨w0.2.1, w0.2.2, by rw [← pow_nat]; omega⟩] at hu
  rw [zw] at hu
  have hx := hvm
  rw [vop, if_neg k1, if_neg k2, if_neg k3, if_neg k19, if_neg k20, if_neg k21, if_neg k22, if_pos k24, mp0 (by omega), mpw (by omega), ldN, z0 0 (by omega)] at hx
  rw [hx] at hok
  rw [hx]
  have hok := okB_true hok
  simp (disch := first | omega | (simp only [EVL] <;> omega) | (simp only [hget_c, Nat.reduceEqDiff, ↓reduceIte]; done) | assumption | (simp (disch := omega) only [hg_ne, hg_eq, hgs_ne, *]; done) | (simp only [TL, LAWSm, EnL]; done) | with_unfolding_all rfl) only [unf k4_1.eq_1, c4, TL, k24, c0, hu, hok, EVS, Nat.reduceAdd, Nat.reduceSub, Int.reduceToNat, Nat.reduceMul, Nat.reduceEqDiff, Nat.reduceLeDiff, Int.reduceEq, Int.reduceLT, Int.reduceLE, ↓reduceIte]
 have e3 : decide (t.k = 3) = false := decide_eq_false (fun e => k3 (.inl e))
 have e4 : decide (t.k = 4) = false := decide_eq_false (fun e => k3 (.inr e))
 have e19 : decide (t.k = 19) = false := decide_eq_false k19
 have e20 : decide (t.k = 20) = false := decide_eq_false k20
 have e21 : decide (t.k = 21) = false := decide_eq_false k21
 have e22 : decide (t.k = 22) = false := decide_eq_false (fun e => k22 (.inl e))
 have e23 : decide (t.k = 23) = false := decide_eq_false (fun e => k22 (.inr e))
 have e24 : decide (t.k = 24) = false := decide_eq_false k24
 have hl2 : t.l.length = 2 ∧ (t.l.getD 1 default).w = (t.l.getD 0 default).w := by
  by_cases k5 : t.k ≤ 15
  ·obtain ⟨_, _, _, _, hl, hs0, hs1⟩ := (node_k5 ⟨by omega, k5⟩).1 hself.1
   unfold subW at hs0 hs1
   exact ⟨hl, hs1.trans hs0.symm⟩
  ·obtain ⟨_, _, _, _, hl, _, hs1⟩ := (node_k16 (t := t) (by omega)).1 hself.1
   unfold subW at hs1
   exact ⟨hl, hs1⟩
 have w0 := hsub 0 (by omega)
 have w1 := hsub 1 (by omega)
 have c0 : cellsAt cs none 0 = _ := hv 0 (by omega)
 have c1 : cellsAt cs none 1 = _ := hv 1 (by omega)
 rw [hl2.2] at w1
 have hu := binary_spec t.k (t.l.getD 0 default).w.toNat _ _ (by omega) (by omega) (by omega) (by omega) w0.1 w1.1
 rw [z0 0 (by omega)] at hu
 have hx := hvm
 rw [vop, if_neg k1, if_neg k2, if_neg k3, if_neg k19, if_neg k20, if_neg k21, if_neg k22, if_neg k24, mp0 (by omega), mp0 (by omega), mpw (by omega)] at hx
 rw [hx] at hok
 rw [hx]
 have hok := okB_true hok
 simp (disch := first | omega | (simp only [EVL] <;> omega) | (simp only [hget_c, Nat.reduceEqDiff, ↓reduceIte]; done) | assumption | (simp (disch := omega) only [hg_ne, hg_eq, hgs_ne, *]; done) | (simp only [TL, LAWSm, EnL]; done) | with_unfolding_all rfl) only [unf k4_1.eq_1, c4, TL, e3, e4, e19, e20, e21, e22, e23, e24, c0, c1, hu, hok, EVS, Nat.reduceAdd, Nat.reduceSub, Int.reduceToNat, Nat.reduceMul, Nat.reduceEqDiff, Nat.reduceLeDiff, Int.reduceEq, Int.reduceLT, Int.reduceLE, ↓reduceIte]
theorem law_TCo (t : Te) (ht : TOk t) (e d : Bool) (env : Env) (hx : ∀ p ∈ env, 0 ≤ p.2.2 ∧ p.2.2 ≤ 18446744073709551615) (m : Mem) (hm : okM m) (h0 : m.length ≤ 9223372036854775807) : ∀ h nx, lim T 4 [.agg [.int .u8 (t).k, .int .i64 (t).w, .int .u64 (t).b, .str (t).s, .int .i64 (t).lo, .lst (t).e ((t).l.map tV)], .lst e (env.map bdV), .lst d (m.map ceV)] h nx = some (.bool true, h, nx) := by
 refine lim_iso tg4 rfl rfl (by simp [pures, pure_, pu_Ts, pu_e, pu_m]) ?_
 obtain ⟨b1, g1, c1⟩ := great_spec t ht
 obtain ⟨r2, ⟨b2, rfl, g2⟩, c2⟩ := greatB_spec (e := e) (d := d) env (m.map ceV) (pu_m m) (by simpa using h0)
 cases b1 with
 |true => simp (disch := first | omega | (simp only [EVL] <;> omega) | (simp only [hget_c, Nat.reduceEqDiff, ↓reduceIte]; done) | assumption | (simp (disch := omega) only [hg_ne, hg_eq, hgs_ne, *]; done) | (simp only [TL, LAWSm, EnL]; done) | with_unfolding_all rfl) only [c4, TL, alive_iso, c1, EVS, Nat.reduceAdd, Nat.reduceSub, Int.reduceToNat, Nat.reduceMul, Nat.reduceEqDiff, Nat.reduceLeDiff, Int.reduceEq, Int.reduceLT, Int.reduceLE, ↓reduceIte]
 |false =>
  cases b2 with
  |true => simp (disch := first | omega | (simp only [EVL] <;> omega) | (simp only [hget_c, Nat.reduceEqDiff, ↓reduceIte]; done) | assumption | (simp (disch := omega) only [hg_ne, hg_eq, hgs_ne, *]; done) | (simp only [TL, LAWSm, EnL]; done) | with_unfolding_all rfl) only [c4, TL, alive_iso, c1, c2, EVS, Nat.reduceAdd, Nat.reduceSub, Int.reduceToNat, Nat.reduceMul, Nat.reduceEqDiff, Nat.reduceLeDiff, Int.reduceEq, Int.reduceLT, Int.reduceLE, ↓reduceIte]
  |false =>
   obtain ⟨sa, da, _⟩ := g1 rfl
   obtain ⟨le, _⟩ := g2 rfl
   have ka : KOk t := fun x hx => (ht x hx).1.1
   have p1 := valueF_pure e d t ht (by omega) ka env le hx m hm h0
   unfold valV at p1
   by_cases hz : valErr t env m = 0
   ·rw [hz, if_pos rfl] at p1
    obtain ⟨z1, z2, z3, z4⟩ := valErr_zero hz
    have hn := (nodes_of_check z1).1
    have hms : memS m := by
     unfold chkM at z3
     by_cases h : memS m
     ·exact h
     ·rw [if_neg h] at z3; cases z3
    have hρ := boundE hx hz
    have hvl := val_lt hm t hn ht hρ
    have hself := (nodesOk_iff t).1 hn
    have hw := (hself.1).1
    have hok : okS t.w (vM (rhoE env) m t : Nat) := by
     unfold wideS at hw
     have h2 : ((vM (rhoE env) m t : Nat) : Int) < 2 ^ t.w.toNat := by rw [← pow_nat]; omega
     exact ⟨hw.1, hw.2, h2⟩
    by_cases hl : t.l.length = 0
    ·have hl' : ((t.l.length : Nat) : Int) = 0 := by omega
     have hok' := okB_true hok
     simp (disch := first | omega | (simp only [EVL] <;> omega) | (simp only [hget_c, Nat.reduceEqDiff, ↓reduceIte]; done) | assumption | (simp (disch := omega) only [hg_ne, hg_eq, hgs_ne, *]; done) | (simp only [TL, LAWSm, EnL]; done) | with_unfolding_all rfl) only [c4, TL, alive_iso, c1, c2, p1, hl', hok', EVS, Nat.reduceAdd, Nat.reduceSub, Int.reduceToNat, Nat.reduceMul, Nat.reduceEqDiff, Nat.reduceLeDiff, Int.reduceEq, Int.reduceLT, Int.reduceLE, ↓reduceIte]
    ·have d1 : decide (((t.l.length : Nat) : Int) = 0) = false := decide_eq_false (by omega)
     have hl3 : t.l.length ≤ 3 := by
      have h2 := hself.1.2
      by_cases k1 : t.k = 1
      ·have := ((node_k1 k1).1 hself.1); omega
      by_cases k2 : t.k = 2
      ·have := ((node_k2 k2).1 hself.1); omega
      rw [if_pos (by
       rcases Int.lt_or_le t.k 1 with h | h
       ·exact absurd hself.1 (node_no (.inl h))
       ·rcases Int.lt_or_le 24 t.k with h' | h'
        ·exact absurd hself.1 (node_no (.inr h'))
        ·omega)] at h2
      have := h2.2.2.2.1
      unfold partsS at this
      (repeat' split at this) <;> omega
     simp (disch := first | omega | (simp only [EVL] <;> omega) | (simp only [hget_c, Nat.reduceEqDiff, ↓reduceIte]; done) | assumption | (simp (disch := omega) only [hg_ne, hg_eq, hgs_ne, *]; done) | (simp only [TL, LAWSm, EnL]; done) | with_unfolding_all rfl) only [c4, TL, alive_iso, c1, c2, p1, d1, EVS, Nat.reduceAdd, Nat.reduceSub, Int.reduceToNat, Nat.reduceMul, Nat.reduceEqDiff, Nat.reduceLeDiff, Int.reduceEq, Int.reduceLT, Int.reduceLE, ↓reduceIte]
     refine tco_loop env m t _ hl3 (fun i hi => ?_) _ (fun cs nx hc hv => tco_fin env m hm h0 hms t hn ht hρ (by omega) cs nx hv) t.l.length 0 [.int .u64 0, .int .u64 0, .int .u64 0] (by omega) rfl (fun j hj => by omega) (fun v hv => by
      simp only [List.mem_cons, List.not_mem_nil, or_false, or_self] at hv
      exact ⟨0, hv⟩)
     have hmem := getD_mem (d := (default : Te)) hi
     have q1 := valueF_pure e d (t.l.getD i default) (ht.sub hmem) (by have := size_mem hmem; omega) (fun x hx => ka x (nodes_sub hmem hx)) env le hx m hm h0
     unfold valV at q1
     rw [valErr_sub hmem hz, if_pos rfl] at q1
     exact q1
   ·rw [if_neg hz] at p1
    have d1 : decide (valErr t env m = 0) = false := decide_eq_false hz
    have zz : decide (((0 : Nat) : Int) = 0) = true := rfl
    simp (disch := first | omega | (simp only [EVL] <;> omega) | (simp only [hget_c, Nat.reduceEqDiff, ↓reduceIte]; done) | assumption | (simp (disch := omega) only [hg_ne, hg_eq, hgs_ne, *]; done) | (simp only [TL, LAWSm, EnL]; done) | with_unfolding_all rfl) only [c4, TL, alive_iso, c1, c2, p1, hz, d1, zz, EVS, Nat.reduceAdd, Nat.reduceSub, Int.reduceToNat, Nat.reduceMul, Nat.reduceEqDiff, Nat.reduceLeDiff, Int.reduceEq, Int.reduceLT, Int.reduceLE, ↓reduceIte]
theorem okM_of {m : Mem} (h : ∀ p ∈ m, (IntKind.u64.min ≤ p.1 ∧ p.1 ≤ IntKind.u64.max) ∧ (IntKind.u8.min ≤ p.2 ∧ p.2 ≤ IntKind.u8.max)) : okM m := fun p hp => by
 have h1 := h p hp
 simp [IntKind.min, IntKind.max, IntKind.signed, IntKind.bits] at h1
 omega
end Go.Proofs.YtkobnfjeehnhlaaGreatDoor.Fi
