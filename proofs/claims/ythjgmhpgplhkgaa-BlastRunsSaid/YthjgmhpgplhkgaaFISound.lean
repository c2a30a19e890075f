/- Code, in the machine. -/
import Derived.Test.YthjgmhpgplhkgaaFIAny
set_option linter.unusedSimpArgs false
set_option linter.unusedVariables false
namespace Go.FI
open Go.RowKit

def psOf (ops : Array Oper) : List Nat := ops.toList.foldl (fun acc o => acc ++ [o.after.toList.foldl (edgeMask acc) 0]) []

def okC (P : Program) (cm : Nat → Nat) (nt : Nat) : Code → C → Bool
  | .skip, .sk => true
  | .label _, .sk => true
  | .region _ ops draw, .rg d gs _ => match draw, d with
    | false, none => okGs P ops nt ops.toList gs
    | true, some pm => okDraw P nt cm ops gs pm (psOf ops)
    | _, _ => false
  | .seq a b, .sq a' b' => okC P cm nt a a' && okC P cm nt b b'
  | .cond c a b, .cd x a' b' => okX c x && okC P cm nt a a' && okC P cm nt b b'
  | .block i c, .bl j d => i == j && okC P cm nt c d
  | .loop c, .lp _ d => okC P cm nt c d
  | .exit i, .xt j => i == j
  | .ret, .rt => true
  | _, _ => false

/-- What is still to do. -/
inductive Todo (P : Program) (cm : Nat → Nat) (nt : Nat) : List Item → List I → Prop
  | nil : Todo P cm nt [] []
  | code (c : Code) (d : C) (k : List Item) (l : List I) (h : okC P cm nt c d = true) (hs : Todo P cm nt k l) : Todo P cm nt (.code c :: k) (.code d :: l)
  | inB (id : Nat) (k : List Item) (l : List I) (hs : Todo P cm nt k l) : Todo P cm nt (.inBlock id :: k) (.inB id :: l)
  | inL (c : Code) (d : C) (t : Option Nat) (k : List Item) (l : List I) (h : okC P cm nt c d = true) (hs : Todo P cm nt k l) : Todo P cm nt (.inLoop c :: k) (.inL t d :: l)

theorem exit_todo {P : Program} {cm : Nat → Nat} {nt : Nat} (id : Nat) {k : List Item} {l : List I} (h : Todo P cm nt k l) :
    (∀ l', FI.exitTo id l = some l' → ∃ k', Go.exitTo id k = some k' ∧ Todo P cm nt k' l') ∧ (FI.exitTo id l = none → Go.exitTo id k = none) := by
  induction h with
  | nil => exact ⟨fun l' h => by simp [FI.exitTo] at h, fun _ => rfl⟩
  | code c d k l h hs ih => exact ih
  | inL c d t k l h hs ih => exact ih
  | inB j k l hs ih =>
    simp only [FI.exitTo, Go.exitTo]
    by_cases e : j = id
    · subst e
      simp only [if_true, beq_self_eq_true]
      exact ⟨fun l' h => by cases h; exact ⟨k, rfl, hs⟩, fun h => by cases h⟩
    · have : (j == id) = false := by simpa using e
      rw [if_neg e, this]
      exact ih

theorem exit_mem (id : Nat) : ∀ (l l' : List I), FI.exitTo id l = some l' → ∀ x ∈ l', x ∈ l := by
  intro l
  induction l with
  | nil => intro l' h; simp [FI.exitTo] at h
  | cons y l ih =>
    intro l' h x hx
    cases y with
    | inB j =>
      simp only [FI.exitTo] at h
      split at h
      · cases h; exact List.mem_cons_of_mem _ hx
      · exact List.mem_cons_of_mem _ (ih _ h x hx)
    | code c => exact List.mem_cons_of_mem _ (ih _ h x hx)
    | inL t c => exact List.mem_cons_of_mem _ (ih _ h x hx)

/-- 'β' is below where any loop began. -/
def Base (β : Nat) (l : List I) : Prop := ∀ b c, I.inL (some b) c ∈ l → β ≤ b

/-- The state without the objects from 'b' on. -/
def gcut (g : Gh) (b : Nat) : Gh := ⟨fun i => if i < b then g.κ i else none, g.Z⟩

/-- How the machine's items stand at an end. -/
def Ended : Ex → List Item → Prop
  | .fin, k => k = []
  | .ret, k => ∃ r, k = .code .ret :: r
  | .xt id, k => ∃ r, k = .code (.exit id) :: r ∧ Go.exitTo id r = none

section
variable {P : Program} {cm : Nat → Nat} {nt : Nat} {cal : Call} {B : Nat} {w0 : World} {r : Option Nat}

theorem room_fb (r : Option Nat) (n : Nat) : (fb r).room n := fun _ h => by simp [fb, Fence.wide] at h

theorem steps_fb {m m' : Machine} (h : StepsIn (Machine.fenced P (fb r)) P m m') : Steps P m m' := h.steps

theorem RT.keep {g : Gh} {w : World} {m : Tm} {a : Act} (hm : RT g w m a) (ts : List Nat) : RT g w (keepOf m ts) a := by
  intro t
  by_cases h : t ∈ ts
  · rw [gt_keepOf _ _ _ h]; exact hm t
  · rw [gt_keepOf_not _ _ _ h]; exact .undef _

theorem hget_cutH (b : Nat) : ∀ (h : Heap) (i : Nat), hget (cutH b h) i = if i < b then hget h i else none := by
  intro h
  induction h with
  | nil => intro i; simp [cutH, hget]
  | cons p r ih =>
    obtain ⟨j, o⟩ := p
    intro i
    simp only [cutH]
    split
    · rename_i hj
      simp only [hget]
      by_cases e : j = i
      · subst e; simp [hj]
      · rw [if_neg e, if_neg e]; exact ih i
    · rename_i hj
      rw [ih]
      by_cases hi : i < b
      · have e : j ≠ i := fun e => hj (by omega)
        simp [hi, hget, e]
      · simp [hi]

theorem lows_iff {b : Nat} {vs : List FV} : lows b vs = true ↔ ∀ v ∈ vs, low b v = true := by
  induction vs with
  | nil => simp [lows]
  | cons v vs ih => simp [lows, ih]

theorem low_cells {b : Nat} {v : FV} (h : low b v = true) : lows b v.cells = true := by
  cases v <;> simp_all [FV.cells, lows, low]

theorem lows_flat {b : Nat} {vs : List FV} (h : lows b vs = true) : lows b (vs.flatMap FV.cells) = true := by
  rw [lows_iff] at h ⊢
  intro c hc
  obtain ⟨v, hv, hcv⟩ := List.mem_flatMap.1 hc
  exact lows_iff.1 (low_cells (h v hv)) c hcv

mutual
theorem R.cut {g : Gh} {w : World} {b : Nat} : ∀ {v : FV} {x : Value}, R g w v x → low b v = true → R (gcut g b) w v x
  | _, _, .undef v, _ => .undef v
  | _, _, .bool b, _ => .bool b
  | _, _, .int k n, _ => .int k n
  | _, _, .str s, _ => .str s
  | _, _, .agg cs vs hr, h => .agg cs vs (RL.lcut hr h)
  | _, _, .tup cs vs hr, h => .tup cs vs (RL.lcut hr h)
  | _, _, .lst0 e a cap he, _ => .lst0 e a cap he
  | _, _, .lst e xs b o es cap cs hne he hle hZ hes hx hr hc, h => .lst e xs b o es cap cs hne he hle hZ hes hx (RL.lcut hr (lows_flat h)) hc
  | _, _, .eptr cs off b o vs hZ hr hc, h => .eptr cs off b o vs hZ (RL.lcut hr h) hc
  | _, _, .ptr id s i off l a hk hs hp, h => .ptr id s i off l a (by simp [low] at h; simp [gcut, h, hk]) hs hp
  | _, _, .sref es id s off len l a cap hk he hs hle ha hp, h => .sref es id s off len l a cap (by simp [low] at h; simp [gcut, h, hk]) he hs hle ha hp
  | _, _, .map id b l hk hm hb, h => .map id b l (by simp [low] at h; simp [gcut, h, hk]) hm hb
  | _, _, .nilp, _ => .nilp
  | _, _, .nilm, _ => .nilm
  | _, _, .fn f cs vs hr, h => .fn f cs vs (RL.lcut hr h)
  | _, _, .nilf, _ => .nilf
  | _, _, .ifc t v x hr, h => .ifc t v x (R.cut hr h)
  | _, _, .nili, _ => .nili
theorem RL.lcut {g : Gh} {w : World} {b : Nat} : ∀ {vs : List FV} {xs : List Value}, RL g w vs xs → lows b vs = true → RL (gcut g b) w vs xs
  | _, _, .nil, _ => .nil
  | _, _, .cons v x vs xs hr hs, h => .cons v x vs xs (R.cut hr (by simp [lows] at h; exact h.1)) (RL.lcut hs (by simp [lows] at h; exact h.2))
end

theorem low_hget {b : Nat} : ∀ {h : Heap}, lowHeap b h = true → ∀ i o, hget h i = some o → lowObj b o = true := by
  intro h
  induction h with
  | nil => intro _ i o ho; simp [hget] at ho
  | cons p r ih =>
    obtain ⟨j, q⟩ := p
    intro hl i o ho
    simp only [lowHeap, Bool.and_eq_true] at hl
    simp only [hget] at ho
    split at ho
    · cases ho; exact hl.1
    · exact ih hl.2 i o ho

theorem EnOk.cut {g : Gh} {w : World} {b : Nat} {en : List (FV × FV)} {es : List MapEntry} (he : EnOk g w en es) (hl : (en.all fun e => low b e.1 && low b e.2) = true) : EnOk (gcut g b) w en es := by
  induction he with
  | nil => exact .nil
  | cons k v e en es hk hv hs ih =>
    simp only [List.all_cons, Bool.and_eq_true] at hl
    exact .cons k v e en es (hk.cut hl.1.1) (hv.cut hl.1.2) (ih hl.2)

theorem Inv.cut {g : Gh} {h : Heap} {w : World} {b : Nat} (hI : Inv B w0 g h w) (hl : lowHeap b (cutH b h) = true) : Inv B w0 (gcut g b) (cutH b h) w := by
  have hk : ∀ i l, (gcut g b).κ i = some l → i < b ∧ g.κ i = some l := fun i l h => by
    simp only [gcut] at h
    split at h
    · exact ⟨by assumption, h⟩
    · cases h
  refine ⟨fun i l h1 => ?_, fun i o l h1 h2 => ?_, fun i j li lj bb h1 h2 => hI.inj i j li lj bb (hk i li h1).2 (hk j lj h2).2, fun i l bb h1 => hI.own i l bb (hk i l h1).2, hI.zlt, hI.below, hI.size⟩
  · obtain ⟨h2, h3⟩ := hk i l h1
    obtain ⟨o, ho⟩ := hI.dom i l h3
    exact ⟨o, by rw [hget_cutH, if_pos h2]; exact ho⟩
  · have hlo := low_hget hl i o h1
    obtain ⟨h3, h4⟩ := hk i l h2
    rw [hget_cutH, if_pos h3] at h1
    have := hI.obj i o l h1 h4
    cases o with
    | row es xs =>
      obtain ⟨k1, k2, k3, k4, k5, k6, k7⟩ := (this : RowOk g w l es xs)
      refine ⟨k1, k2, k3, k4, k5, k6, fun bb hb => ?_⟩
      obtain ⟨arr, t, q1, q2, q3, cs, q4, q5⟩ := k7 bb hb
      exact ⟨arr, t, q1, q2, q3, cs, q4.lcut (lows_flat hlo), q5⟩
    | mp en =>
      obtain ⟨k1, bb, es, clock, q1, q2, q3⟩ := (this : MapOk g w l en)
      exact ⟨k1, bb, es, clock, q1, q2, q3.cut hlo⟩

theorem lowTm_gt {b : Nat} : ∀ {m : Tm}, lowTm b m = true → ∀ t, low b (gt m t) = true := by
  intro m
  induction m with
  | nil => intro _ t; simp [gt, low]
  | cons p r ih =>
    obtain ⟨i, v⟩ := p
    intro hl t
    simp only [lowTm, Bool.and_eq_true] at hl
    simp only [gt]
    split
    · exact hl.1
    · exact ih hl.2 t

theorem RT.cut {g : Gh} {w : World} {m : Tm} {a : Act} {b : Nat} (hm : RT g w m a) (hl : lowTm b m = true) : RT (gcut g b) w m a := fun t => (hm t).cut (lowTm_gt hl t)

theorem gcut_gcut {g : Gh} {b c : Nat} (h : c ≤ b) : gcut (gcut g b) c = gcut g c := by
  unfold gcut
  congr 1
  funext i
  by_cases hi : i < c
  · simp [hi, show i < b by omega]
  · simp [hi]

theorem gcut_fresh {g : Gh} {h : Heap} {w : World} {nx : Nat} (hI : Inv B w0 g h w) (hf : Fresh h nx) : gcut g nx = g := by
  obtain ⟨κ, Z⟩ := g
  unfold gcut
  congr 1
  funext i
  by_cases hi : i < nx
  · simp [hi]
  · simp [hi]; exact (kNone hI (hf i (by omega))).symm

theorem GLe.cut {g g1 : Gh} {w w1 : World} (h : GLe g g1 w w1) (b : Nat) : GLe (gcut g b) (gcut g1 b) w w1 := by
  refine ⟨h.z, h.heap, fun i l hl => ?_⟩
  simp only [gcut] at hl ⊢
  split at hl
  · rename_i hi
    obtain ⟨l', k1, k2⟩ := h.k i l hl
    exact ⟨l', by simp [hi, k1], k2⟩
  · cases hl

theorem Nx.cutTrans {g g1 g2 : Gh} {h1 h2 : Heap} {w w1 w2 : World} {β : Nat} (x : Nx B w0 g g1 h1 w w1) (y : Nx B w0 (gcut g1 β) g2 h2 w1 w2) : Nx B w0 (gcut g β) g2 h2 w w2 :=
  ⟨y.inv, (x.le.cut β).trans y.le, fun b hb => by
    rcases y.z b hb with h | h
    · exact x.z b h
    · exact .inr (Nat.le_trans x.sz h), Nat.le_trans x.sz y.sz⟩

/-- What a run leaves. -/
def Ran (P : Program) (nt : Nat) (B : Nat) (w0 : World) (b : Frame) (cs : List Frame) (β : Nat) (g : Gh) (h : Heap) (w : World) (a : Act) (K : List Item) (ex : Ex) (m' : Tm) (h' : Heap) : Prop :=
  ∃ g' a' w' K', Steps P (lone (b.atR a K) cs w) (lone (b.atR a' K') cs w') ∧ Ended ex K' ∧ RT g' w' m' a' ∧ a'.tmps.size = nt ∧ a'.defers = a.defers ∧ Nx B w0 (gcut g β) g' h' w w' ∧ KNew g g' h h' (fun i => β ≤ i)

theorem Ran.step {b : Frame} {cs : List Frame} {β : Nat} {g : Gh} {w : World} {a : Act} {K K1 : List Item} {ex : Ex} {m' : Tm} {h h' : Heap} (hs : Steps P (lone (b.atR a K) cs w) (lone (b.atR a K1) cs w))
    (hr : Ran P nt B w0 b cs β g h w a K1 ex m' h') : Ran P nt B w0 b cs β g h w a K ex m' h' := by
  obtain ⟨g', a', w', K', h1, h2⟩ := hr
  exact ⟨g', a', w', K', hs.trans h1, h2⟩

theorem Nx.here {g : Gh} {h : Heap} {w : World} (hI : Inv B w0 g h w) (β : Nat) : Nx B w0 (gcut g β) g h w w :=
  ⟨hI, ⟨fun _ h => h, fun _ _ => rfl, fun i l hl => by
    simp only [gcut] at hl
    split at hl
    · exact ⟨l, hl, Nat.le_refl _, rfl, fun _ => rfl⟩
    · cases hl⟩, fun _ h => .inl h, Nat.le_refl _⟩

theorem run_sound (hcal : CalOk P cal) (hst : Stable cal cm) (hmix : P.follows .mixedOrders = true) : ∀ (n : Nat) (todo : List I) (m : Tm) (h : Heap) (nx : Nat) (ex : Ex) (m' : Tm) (h' : Heap) (nx' : Nat),
    run cal n todo m h nx = some (ex, m', h', nx') → (∀ K β, Todo P cm nt K todo → Base β todo → β ≤ nx → Fresh h nx → (β ≤ nx' ∧ Fresh h' nx' ∧ ∀ i < β, hget h i = none → hget h' i = none) ∧
      ∀ (g : Gh) (w : World) (a : Act) (b : Frame) (cs : List Frame), RT g w m a → a.tmps.size = nt → Inv B w0 g h w → Ran P nt B w0 b cs β g h w a K ex m' h') := by
  intro n
  induction n with
  | zero => intro todo m h nx ex m' h' nx' hr; simp [run] at hr
  | succ n ih =>
    intro todo m h nx ex m' h' nx' hr K β hK hB hβ hf
    cases hK with
    | nil =>
      simp only [run, Option.some.injEq, Prod.mk.injEq] at hr
      obtain ⟨rfl, rfl, rfl, rfl⟩ := hr
      exact ⟨⟨hβ, hf, fun _ _ h => h⟩, fun g w a b cs hm hs hI => ⟨g, a, w, [], .refl _ _, rfl, hm, hs, rfl, .here hI β, fun _ _ h => ⟨h, rfl⟩⟩⟩
    | inB id k l hs =>
      simp only [run] at hr
      obtain ⟨h1, h2⟩ := ih _ _ _ _ _ _ _ _ hr k β hs (fun b c hm => hB b c (by simp [hm])) hβ hf
      exact ⟨h1, fun g w a b cs hm hsz hI => (h2 g w a b cs hm hsz hI).step (.one stepR_inBlock)⟩
    | inL c d t k l hok hs =>
      cases t with
      | none =>
        simp only [run] at hr
        obtain ⟨h1, h2⟩ := ih _ _ _ _ _ _ _ _ hr _ β (.code c d _ _ hok (.inL c d none k l hok hs)) (fun b c hm => hB b c (by simpa using hm)) hβ hf
        exact ⟨h1, fun g w a b cs hm hsz hI => (h2 g w a b cs hm hsz hI).step (.one stepR_inLoop)⟩
      | some bb =>
        simp only [run] at hr
        obtain ⟨⟨c1, c2, c3⟩, hr⟩ := chk_some hr
        have hbb : β ≤ bb := hB bb d (by simp)
        obtain ⟨⟨h1, h2, h3⟩, h4⟩ := ih _ _ _ _ _ _ _ _ hr _ β (.code c d _ _ hok (.inL c d (some bb) k l hok hs)) (fun b c hm => hB b c (by simpa using hm)) hbb (fun i hi => by rw [hget_cutH, if_neg (by omega)])
        refine ⟨⟨h1, h2, fun i hi hn => h3 i hi (by rw [hget_cutH]; split; exact hn; rfl)⟩, fun g w a b cs hm hsz hI => ?_⟩
        obtain ⟨g', a', w', K', r1, r2, r3, r4, r5, r6, r7⟩ := h4 (gcut g bb) w a b cs (hm.cut c2) hsz (hI.cut c3)
        rw [gcut_gcut hbb] at r6
        refine ⟨g', a', w', K', Steps.trans (.one stepR_inLoop) r1, r2, r3, r4, r5, r6, fun i hi hk => ?_⟩
        have hib : i < bb := by omega
        have := r7 i hi (by simp [gcut, hib, hk])
        refine ⟨this.1, ?_⟩
        rw [this.2, hget_cutH, if_pos hib]
    | code c d k l hok hs =>
      cases d with
      | sk =>
        simp only [run] at hr
        obtain ⟨h1, h2⟩ := ih _ _ _ _ _ _ _ _ hr k β hs (fun b c hm => hB b c (by simp [hm])) hβ hf
        refine ⟨h1, fun g w a b cs hm hsz hI => ?_⟩
        cases c <;> simp only [okC, Bool.false_eq_true] at hok
        · exact (h2 g w a b cs hm hsz hI).step (.one stepR_skip)
        · exact (h2 g w a b cs hm hsz hI).step (.one stepR_label)
      | rg d gs keep =>
        cases c <;> simp only [okC, Bool.false_eq_true] at hok
        rename_i rid ops draw
        simp only [run] at hr
        obtain ⟨⟨m1, h1, nx1⟩, k1, hr⟩ := bnd_some hr
        simp only at hr
        have hn : ∀ j, nx ≤ j → j < nx + gs.length → hget h j = none := fun j hj _ => hf j hj
        obtain ⟨e1, e2⟩ := rops_new hcal gs nx m h (nx + gs.length) m1 h1 nx1 hn (Nat.le_refl _) (fun i hi => hf i (by omega)) k1
        have hf' : Fresh h (nx + gs.length) := fun i hi => hf i (by omega)
        have hnew1 : New h h1 nx nx1 := ⟨by omega, fun i hi hc => e2 i hi (by omega) (by omega)⟩
        obtain ⟨⟨q1, q3, q4⟩, q2⟩ := ih _ _ _ _ _ _ _ _ hr k β hs (fun b c hm => hB b c (by simp [hm])) (by omega) (hnew1.fresh hf : Fresh h1 nx1)
        refine ⟨⟨q1, q3, fun i hi hn => q4 i hi (hnew1.2 i hn (.inl (by omega)))⟩, fun g w a b cs hm hsz hI => ?_⟩
        have after : ∀ a1 w1, RegPost B w0 nt a g h w (fun i => nx ≤ i ∧ i < nx1) m1 h1 .normal a1 w1 → Steps P (lone (b.atR a (.code (.region rid ops draw) :: k)) cs w) (lone (b.atR a1 k) cs w1) →
            Ran P nt B w0 b cs β g h w a (.code (.region rid ops draw) :: k) ex m' h' := by
          rintro a1 w1 ⟨_, g1, f1, f2, f3, f4, f5⟩ hsteps
          obtain ⟨g', a', w', K', r1, r2, r3, r4, r5, r6, r7⟩ := q2 g1 w1 a1 b cs (f1.keep keep) f2 f4.inv
          exact ⟨g', a', w', K', hsteps.trans r1, r2, r3, r4, r5.trans f3, f4.cutTrans r6, fun i hi hk => by
            have p1 := f5 i (fun e => hi (by omega)) hk
            have p2 := r7 i hi p1.1
            exact ⟨p2.1, p2.2.trans p1.2⟩⟩
        have fin : ∀ (l : List Nat) (wi : World), Steps P (lone (b.atR a (.code (.region rid ops draw) :: k)) cs w) (lone (b.atR a (.inRegion ops l :: k)) cs wi) →
            wpOpsIn (fb b.roundOf) 0 P ops (RegPost B w0 nt a g h w (fun i => nx ≤ i ∧ i < nx1) m1 h1) l a wi → Ran P nt B w0 b cs β g h w a (.code (.region rid ops draw) :: k) ex m' h' := by
          intro l wi hs1 hwp
          obtain ⟨e, a1, w1, hq, harr⟩ := wp_opsIn l a wi hwp b k cs rfl trivial (room_fb _ _)
          have he : e = .normal := hq.1
          subst he
          exact after a1 w1 hq (hs1.trans (StepsIn.steps harr))
        cases draw with
        | false =>
          cases d with | some => simp at hok | none =>
          simp only at hok
          have hlen := (okGs_get _ _ hok).1
          refine fin (List.range ops.size) w (.one stepR_region) ?_
          have hsz2 : ops.size = gs.length := by simpa using hlen
          rw [List.range_eq_range', hsz2]
          exact rops_sound hcal gs 0 nx m h (nx + gs.length) m1 h1 nx1 g w a (by simpa using hok) k1 hm hsz rfl (.refl hI) hn (Nat.le_refl _) hf' (fun _ _ h => ⟨h, rfl⟩) (fun j h1 h2 => ⟨h1, by omega⟩) (fun j h1 h2 => ⟨by omega, h2⟩)
        | true =>
          cases d with | none => simp at hok | some pm =>
          simp only at hok
          refine fin _ w.drew (.one stepR_region_draw) ?_
          simp only [Region.schedule, hmix, Bool.true_or, if_true]
          refine wpAnyIn_sound ops.size _ _ a w.drew ?_
          have hh := draw_sound (r := b.roundOf) (n := 0) (a := a) (w := w.drew) (g := g) (B := B) (w0 := w0) hcal hst hok k1 (hm.mono (GLe.drew g w)) hsz hI.drew (fun j hj => hf _ (by omega)) (Nat.le_refl _) hf' (NN := fun i => nx ≤ i ∧ i < nx1) (fun j h1 h2 => ⟨h1, by omega⟩) (fun j h1 h2 => ⟨by omega, h2⟩)
          have hpost : RegPost B w0 nt a g h w.drew (fun i => nx ≤ i ∧ i < nx1) m1 h1 = RegPost B w0 nt a g h w (fun i => nx ≤ i ∧ i < nx1) m1 h1 := by
            funext e a' w'
            unfold RegPost
            apply propext
            constructor
            · rintro ⟨e1, g', e2, e3, e4, e5, e6⟩
              exact ⟨e1, g', e2, e3, e4, ⟨e5.inv, (GLe.drew g w).trans e5.le, e5.z, e5.sz⟩, e6⟩
            · rintro ⟨e1, g', e2, e3, e4, e5, e6⟩
              exact ⟨e1, g', e2, e3, e4, ⟨e5.inv, ⟨e5.le.z, e5.le.heap, e5.le.k⟩, e5.z, e5.sz⟩, e6⟩
          rw [← hpost]
          exact hh
      | sq x y =>
        cases c <;> simp only [okC, Bool.false_eq_true] at hok
        simp only [Bool.and_eq_true] at hok
        simp only [run] at hr
        obtain ⟨h1, h2⟩ := ih _ _ _ _ _ _ _ _ hr _ β (.code _ x _ _ hok.1 (.code _ y _ _ hok.2 hs)) (fun b c hm => hB b c (by simpa using hm)) hβ hf
        exact ⟨h1, fun g w a b cs hm hsz hI => (h2 g w a b cs hm hsz hI).step (.one stepR_seq)⟩
      | cd x y z =>
        cases c <;> simp only [okC, Bool.false_eq_true] at hok
        rename_i c' y' z'
        simp only [Bool.and_eq_true] at hok
        simp only [run] at hr
        split at hr
        · rename_i t hx
          have hcond : ∀ (g : Gh) (w : World) (a : Act), RT g w m a → a.eval c' = .bool t := fun g w a hm => by
            have := R_okX hm hok.1.1
            rw [hx] at this
            exact R_bool this
          split at hr
          · rename_i htt
            subst htt
            obtain ⟨h1, h2⟩ := ih _ _ _ _ _ _ _ _ hr _ β (.code y' y _ _ hok.1.2 hs) (fun b c hm => hB b c (by simpa using hm)) hβ hf
            exact ⟨h1, fun g w a b cs hm hsz hI => (h2 g w a b cs hm hsz hI).step (.one (by simpa using stepR_cond (hcond g w a hm)))⟩
          · rename_i htt
            have : t = false := by simpa using htt
            subst this
            obtain ⟨h1, h2⟩ := ih _ _ _ _ _ _ _ _ hr _ β (.code z' z _ _ hok.2 hs) (fun b c hm => hB b c (by simpa using hm)) hβ hf
            exact ⟨h1, fun g w a b cs hm hsz hI => (h2 g w a b cs hm hsz hI).step (.one (by simpa using stepR_cond (hcond g w a hm)))⟩
        · simp at hr
      | bl id x =>
        cases c <;> simp only [okC, Bool.false_eq_true] at hok
        simp only [Bool.and_eq_true, beq_iff_eq] at hok
        obtain ⟨rfl, hok⟩ := hok
        simp only [run] at hr
        obtain ⟨h1, h2⟩ := ih _ _ _ _ _ _ _ _ hr _ β (.code _ x _ _ hok (.inB _ _ _ hs)) (fun b c hm => hB b c (by simpa using hm)) hβ hf
        exact ⟨h1, fun g w a b cs hm hsz hI => (h2 g w a b cs hm hsz hI).step (.one stepR_block)⟩
      | lp tr x =>
        cases c <;> simp only [okC, Bool.false_eq_true] at hok
        simp only [run] at hr
        obtain ⟨h1, h2⟩ := ih _ _ _ _ _ _ _ _ hr _ β (.code _ x _ _ hok (.inL _ x _ _ _ hok hs)) (fun b c hm => by
          simp only [List.mem_cons, reduceCtorEq, false_or] at hm
          rcases hm with hm | hm
          · cases tr
            · simp at hm
            · simp at hm; omega
          · exact hB b c (by simp [hm])) hβ hf
        exact ⟨h1, fun g w a b cs hm hsz hI => (h2 g w a b cs hm hsz hI).step (.one stepR_loop)⟩
      | xt id =>
        cases c <;> simp only [okC, Bool.false_eq_true] at hok
        simp only [beq_iff_eq] at hok
        subst hok
        simp only [run] at hr
        obtain ⟨x1, x2⟩ := exit_todo (P := P) (cm := cm) (nt := nt) _ hs
        split at hr
        · rename_i l' hl
          obtain ⟨k', hk', hs'⟩ := x1 _ hl
          obtain ⟨h1, h2⟩ := ih _ _ _ _ _ _ _ _ hr _ β hs' (fun b c hm => hB b c (List.mem_cons_of_mem _ (exit_mem _ _ _ hl _ hm))) hβ hf
          exact ⟨h1, fun g w a b cs hm hsz hI => (h2 g w a b cs hm hsz hI).step (.one (stepR_exit hk'))⟩
        · rename_i hl
          simp only [Option.some.injEq, Prod.mk.injEq] at hr
          obtain ⟨rfl, rfl, rfl, rfl⟩ := hr
          exact ⟨⟨hβ, hf, fun _ _ h => h⟩, fun g w a b cs hm hsz hI => ⟨g, a, w, _, .refl _ _, ⟨k, rfl, x2 hl⟩, hm, hsz, rfl, .here hI β, fun _ _ h => ⟨h, rfl⟩⟩⟩
      | rt =>
        cases c <;> simp only [okC, Bool.false_eq_true] at hok
        simp only [run, Option.some.injEq, Prod.mk.injEq] at hr
        obtain ⟨rfl, rfl, rfl, rfl⟩ := hr
        exact ⟨⟨hβ, hf, fun _ _ h => h⟩, fun g w a b cs hm hsz hI => ⟨g, a, w, _, .refl _ _, ⟨k, rfl⟩, hm, hsz, rfl, .here hI β, fun _ _ h => ⟨h, rfl⟩⟩⟩

end
end Go.FI
