/- A long run, in pieces. -/
import Derived.Test.YtjmppkmacaeahaaGreatDoorFILim
set_option linter.all false
set_option linter.unusedSimpArgs false
set_option linter.unusedVariables false
set_option linter.unusedSectionVars false
namespace Go.FI

/-- So many steps of a run: where it stands, or what it came to. -/
def runJ (cal : Call) : Nat → List I → Tm → Heap → Nat → Option (Sum (List I × Tm × Heap × Nat) (Ex × Tm × Heap × Nat))
  | 0, todo, m, h, nx => some (.inl (todo, m, h, nx))
  | n + 1, todo, m, h, nx =>
    match todo with
    | .code .sk :: k => runJ cal n k m h nx
    | .inB _ :: k => runJ cal n k m h nx
    | .inS _ :: k => runJ cal n k m h nx
    | .code (.lb _) :: k => runJ cal n k m h nx
    | .code .bad :: _ => none
    | .code (.sc c) :: k => runJ cal n (.code c :: .inS c :: k) m h nx
    | .code (.go l) :: k => match goIn l k with
      | some k' => runJ cal n k' m h nx
      | none => none
    | .beg id :: k => match hget h id with
      | some (.lp 0 jp) => runJ cal n k m (hset h id (.lp 1 jp)) nx
      | _ => none
    | .code (.rf f x ct) :: k => match ev m x with
      | .fn q caps => bnd (np cal q (.yl f nx (evs m (ct.map .t)) :: caps) ((nx, .lp 0 0) :: h) (nx + 1)) fun r =>
          match hget r.2.1 nx with
          | some (.lp st jp) => chk (st ≠ 1) (match jp with
            | 0 => runJ cal n k m (hset r.2.1 nx (.lp 3 jp)) r.2.2
            | 1 => runJ cal n (.code .rt :: k) m (hset r.2.1 nx (.lp 3 jp)) r.2.2
            | e + 2 => runJ cal n (.code (.xt e) :: k) m (hset r.2.1 nx (.lp 3 jp)) r.2.2)
          | _ => none
      | _ => none
    | .code (.rg _ ops keep) :: k => bnd (rops (np cal) nx ops m h (nx + ops.length)) fun x => runJ cal n k (keepOf x.1 keep) x.2.1 x.2.2
    | .code (.rp _ c kp ops keep) :: k => bnd (ropsD cal nx c ops m h (nx + ops.length)) fun x => match x.1 with
      | none => runJ cal n k (keepOf x.2.1 keep) x.2.2.1 x.2.2.2
      | some v => some (.inr (.pan v, keepOf x.2.1 kp, x.2.2.1, x.2.2.2))
    | .code (.rq ops keep) :: k => bnd (ropsP cal nx ops m h (nx + ops.length)) fun x => match x.1 with
      | none => runJ cal n k (keepOf x.2.1 keep) x.2.2.1 x.2.2.2
      | some v => some (.inr (.pan v, x.2.1, x.2.2.1, x.2.2.2))
    | .code (.sq a b) :: k => runJ cal n (.code a :: .code b :: k) m h nx
    | .code (.cd c a b) :: k => match ev m c with
      | .bool b' => if b' = true then runJ cal n (.code a :: k) m h nx else runJ cal n (.code b :: k) m h nx
      | _ => none
    | .code (.bl id c) :: k => runJ cal n (.code c :: .inB id :: k) m h nx
    | .code (.lp tr c) :: k => runJ cal n (.code c :: .inL (if tr = true then some nx else none) c :: k) m h nx
    | .inL none c :: k => runJ cal n (.code c :: .inL none c :: k) m h nx
    | .inL (some b) c :: k => chk (b ≤ nx ∧ lowTm b m = true ∧ lowHeap b (cutH b h) = true) (runJ cal n (.code c :: .inL (some b) c :: k) m (cutH b h) b)
    | .code (.xt id) :: k => match exitTo id k with
      | some k' => runJ cal n k' m h nx
      | none => some (.inr (.xt id, m, h, nx))
    | .code .rt :: _ => some (.inr (.ret, m, h, nx))
    | [] => some (.inr (.fin, m, h, nx))


/-- What comes behind so many pieces. -/
def behind : Nat → C → C
  | 0, c => c
  | n + 1, .sq _ b => behind n b
  | _ + 1, c => c

theorem exitTo_app {id : Nat} {k : List I} : ∀ {l l' : List I}, exitTo id l = some l' → exitTo id (l ++ k) = some (l' ++ k) := by
  intro l
  induction l with
  | nil => intro l' h; cases h
  | cons i l ih =>
    intro l' h
    cases i with
    | inB j =>
      simp only [exitTo, List.cons_append] at h ⊢
      split at h
      · rename_i e; rw [if_pos e]; cases h; rfl
      · rename_i e; rw [if_neg e]; exact ih h
    | code c => exact ih h
    | inL t c => exact ih h
    | inS c => exact ih h
    | beg i => exact ih h
theorem goIn_app {t : Nat} {k : List I} : ∀ {l l' : List I}, goIn t l = some l' → goIn t (l ++ k) = some (l' ++ k) := by
  intro l
  induction l with
  | nil => intro l' h; cases h
  | cons i l ih =>
    intro l' h
    cases i with
    | inS c =>
      simp only [goIn, List.cons_append] at h ⊢
      split at h
      · cases h; rfl
      · exact ih h
    | code c => exact ih h
    | inL t c => exact ih h
    | inB j => exact ih h
    | beg i => exact ih h

theorem run_app {cal : Call} {k : List I} {m' : Tm} {h' : Heap} {nx' : Nat} {n' : Nat} {r : Ex × Tm × Heap × Nat} (hk : run cal n' k m' h' nx' = some r) : ∀ (n : Nat) (l : List I) (m : Tm) (h : Heap) (nx : Nat), run cal n l m h nx = some (.fin, m', h', nx') → run cal (n + n') (l ++ k) m h nx = some r := by
  intro n
  induction n with
  | zero => intro l m h nx hr; simp [run] at hr
  | succ n ih =>
    intro l m h nx hr
    rw [show n + 1 + n' = (n + n') + 1 by omega]
    cases l with
    | nil =>
      simp only [run, Option.some.injEq, Prod.mk.injEq, true_and] at hr
      obtain ⟨rfl, rfl, rfl⟩ := hr
      rw [List.nil_append]
      exact run_le (fun _ _ _ _ _ h => h) n' _ (by omega) _ _ _ _ _ hk
    | cons i l =>
      rw [List.cons_append]
      cases i with
      | inB id => simp only [run] at hr ⊢; exact ih _ _ _ _ hr
      | inS c => simp only [run] at hr ⊢; exact ih _ _ _ _ hr
      | beg id =>
        simp only [run] at hr ⊢
        split at hr
        · exact ih _ _ _ _ hr
        · cases hr
      | inL tr c =>
        cases tr with
        | none => simp only [run] at hr ⊢; exact ih (.code c :: .inL none c :: l) _ _ _ hr
        | some b =>
          simp only [run] at hr ⊢
          obtain ⟨h1, h2⟩ := chk_some hr
          rw [chk, if_pos h1]
          exact ih (.code c :: .inL (some b) c :: l) _ _ _ h2
      | code c =>
        cases c with
        | bad => simp [run] at hr
        | sk => simp only [run] at hr ⊢; exact ih _ _ _ _ hr
        | lb t => simp only [run] at hr ⊢; exact ih _ _ _ _ hr
        | sc c => simp only [run] at hr ⊢; exact ih (.code c :: .inS c :: l) _ _ _ hr
        | go t =>
          simp only [run] at hr ⊢
          cases hg : goIn t l with
          | none => rw [hg] at hr; cases hr
          | some l' =>
            rw [hg] at hr
            rw [goIn_app hg]
            exact ih _ _ _ _ hr
        | rf f x ct =>
          simp only [run] at hr ⊢
          split at hr
          · obtain ⟨⟨v, h2, nx2⟩, k1, hr⟩ := bnd_some hr
            refine bnd_mk k1 ?_
            simp only at hr ⊢
            split at hr
            · rename_i st jp hg
              obtain ⟨k2, hr⟩ := chk_some hr
              rw [chk, if_pos k2]
              match jp, hr with
              | 0, hr => exact ih _ _ _ _ hr
              | 1, hr => exact ih (.code .rt :: l) _ _ _ hr
              | e + 2, hr => exact ih (.code (.xt e) :: l) _ _ _ hr
            · cases hr
          · cases hr
        | rg d ops keep =>
          simp only [run] at hr ⊢
          obtain ⟨x, k1, hr⟩ := bnd_some hr
          exact bnd_mk k1 (ih _ _ _ _ hr)
        | rp pm c kp ops keep =>
          simp only [run] at hr ⊢
          obtain ⟨⟨p, x⟩, k1, hr⟩ := bnd_some hr
          refine bnd_mk k1 ?_
          cases p with
          | none => exact ih _ _ _ _ hr
          | some v => simp at hr
        | rq ops keep =>
          simp only [run] at hr ⊢
          obtain ⟨⟨p, x⟩, k1, hr⟩ := bnd_some hr
          refine bnd_mk k1 ?_
          cases p with
          | none => exact ih _ _ _ _ hr
          | some v => simp at hr
        | sq a b => simp only [run] at hr ⊢; exact ih (.code a :: .code b :: l) _ _ _ hr
        | cd c a b =>
          simp only [run] at hr ⊢
          split at hr
          · split at hr
            · rename_i e; rw [if_pos e]; exact ih (.code a :: l) _ _ _ hr
            · rename_i e; rw [if_neg e]; exact ih (.code b :: l) _ _ _ hr
          · cases hr
        | bl id c => simp only [run] at hr ⊢; exact ih (.code c :: .inB id :: l) _ _ _ hr
        | lp tr c => simp only [run] at hr ⊢; exact ih (.code c :: .inL (if tr = true then some nx else none) c :: l) _ _ _ hr
        | xt id =>
          simp only [run] at hr ⊢
          cases hg : exitTo id l with
          | none => rw [hg] at hr; simp at hr
          | some l' =>
            rw [hg] at hr
            rw [exitTo_app hg]
            exact ih _ _ _ _ hr
        | rt => simp [run] at hr

theorem runJ_inl {cal : Call} {k : List I} {m' : Tm} {h' : Heap} {nx' : Nat} {n' : Nat} {r : Ex × Tm × Heap × Nat} (hk : run cal n' k m' h' nx' = some r) : ∀ (n : Nat) (l : List I) (m : Tm) (h : Heap) (nx : Nat), runJ cal n l m h nx = some (.inl (k, m', h', nx')) → run cal (n + n') l m h nx = some r := by
  intro n
  induction n with
  | zero =>
    intro l m h nx hr
    simp only [runJ, Option.some.injEq, Sum.inl.injEq, Prod.mk.injEq] at hr
    obtain ⟨rfl, rfl, rfl, rfl⟩ := hr
    rw [Nat.zero_add]; exact hk
  | succ n ih =>
    intro l m h nx hr
    rw [show n + 1 + n' = (n + n') + 1 by omega]
    cases l with
    | nil => simp [runJ] at hr
    | cons i l =>
      cases i with
      | inB id => simp only [run, runJ] at hr ⊢; exact ih _ _ _ _ hr
      | inS c => simp only [run, runJ] at hr ⊢; exact ih _ _ _ _ hr
      | beg id =>
        simp only [run, runJ] at hr ⊢
        split at hr
        · rename_i e; rw [e]; exact ih _ _ _ _ hr
        · cases hr
      | inL tr c =>
        cases tr with
        | none => simp only [run, runJ] at hr ⊢; exact ih (.code c :: .inL none c :: l) _ _ _ hr
        | some b =>
          simp only [run, runJ] at hr ⊢
          obtain ⟨h1, h2⟩ := chk_some hr
          rw [chk, if_pos h1]
          exact ih (.code c :: .inL (some b) c :: l) _ _ _ h2
      | code c =>
        cases c with
        | bad => simp [runJ] at hr
        | sk => simp only [run, runJ] at hr ⊢; exact ih _ _ _ _ hr
        | lb t => simp only [run, runJ] at hr ⊢; exact ih _ _ _ _ hr
        | sc c => simp only [run, runJ] at hr ⊢; exact ih (.code c :: .inS c :: l) _ _ _ hr
        | go t =>
          simp only [run, runJ] at hr ⊢
          cases hg : goIn t l with
          | none => rw [hg] at hr; cases hr
          | some l' =>
            rw [hg] at hr
            exact ih _ _ _ _ hr
        | rf f x ct =>
          simp only [run, runJ] at hr ⊢
          split at hr
          · rename_i hx
            rw [hx]
            obtain ⟨⟨v, h2, nx2⟩, k1, hr⟩ := bnd_some hr
            refine bnd_mk k1 ?_
            simp only at hr ⊢
            split at hr
            · rename_i st jp hg
              simp only [hg]
              obtain ⟨k2, hr⟩ := chk_some hr
              refine (if_pos k2).trans ?_
              match jp, hr with
              | 0, hr => exact ih _ _ _ _ hr
              | 1, hr => exact ih (.code .rt :: l) _ _ _ hr
              | e + 2, hr => exact ih (.code (.xt e) :: l) _ _ _ hr
            · cases hr
          · cases hr
        | rg d ops keep =>
          simp only [run, runJ] at hr ⊢
          obtain ⟨x, k1, hr⟩ := bnd_some hr
          exact bnd_mk k1 (ih _ _ _ _ hr)
        | rp pm c kp ops keep =>
          simp only [run, runJ] at hr ⊢
          obtain ⟨⟨p, x⟩, k1, hr⟩ := bnd_some hr
          refine bnd_mk k1 ?_
          cases p with
          | none => exact ih _ _ _ _ hr
          | some v => simp at hr
        | rq ops keep =>
          simp only [run, runJ] at hr ⊢
          obtain ⟨⟨p, x⟩, k1, hr⟩ := bnd_some hr
          refine bnd_mk k1 ?_
          cases p with
          | none => exact ih _ _ _ _ hr
          | some v => simp at hr
        | sq a b => simp only [run, runJ] at hr ⊢; exact ih (.code a :: .code b :: l) _ _ _ hr
        | cd c a b =>
          simp only [run, runJ] at hr ⊢
          split at hr
          · rename_i hx
            rw [hx]
            split at hr
            · rename_i e; simp only [e, if_true]; exact ih (.code a :: l) _ _ _ hr
            · rename_i e; simp only [e, if_false, Bool.false_eq_true]; exact ih (.code b :: l) _ _ _ hr
          · cases hr
        | bl id c => simp only [run, runJ] at hr ⊢; exact ih (.code c :: .inB id :: l) _ _ _ hr
        | lp tr c => simp only [run, runJ] at hr ⊢; exact ih (.code c :: .inL (if tr = true then some nx else none) c :: l) _ _ _ hr
        | xt id =>
          simp only [run, runJ] at hr ⊢
          cases hg : exitTo id l with
          | none => rw [hg] at hr; simp at hr
          | some l' =>
            rw [hg] at hr
            exact ih _ _ _ _ hr
        | rt => simp [runJ] at hr

theorem runs_app {T : Tab} {l k : List I} {m m' : Tm} {h h' : Heap} {nx nx' : Nat} {r : Ex × Tm × Heap × Nat} (hl : runs T l m h nx = some (.fin, m', h', nx')) (hk : runs T k m' h' nx' = some r) : runs T (l ++ k) m h nx = some r := by
  obtain ⟨n, hn⟩ := runs_some.1 hl
  obtain ⟨n', hn'⟩ := runs_some.1 hk
  exact runs_some.2 ⟨n + n', run_app hn' n _ _ _ _ hn⟩
/-- A run in the kernel. -/
theorem runs_of {T : Tab} {n c : Nat} {l : List I} {m : Tm} {h : Heap} {nx : Nat} {r : Ex × Tm × Heap × Nat} (hr : run (call T c) n l m h nx = some r) : runs T l m h nx = some r :=
  runs_some.2 ⟨n, run_le (le_lim T c) n n (Nat.le_refl _) _ _ _ _ _ hr⟩
/-- A call of a function without parameters, out of a run. -/
theorem call_of_run {T : Tab} {f C N : Nat} {d : Fn} (ht : tget T f = some (.fn d)) (hlt : f < RB) (hm : d.mode = .iso) (hn : d.np = 0) (hCN : C ≤ C) {x : Ex × Tm × Heap × Nat} (hr : run (call T C) N [.code d.body] [] [] 0 = some x) {v r : FV} (hf : finish d x = some v) (hz : frz x.2.2.1 deep v = some r) :
    call T (max C N + 1) f [] [] 0 = some (r, [], 0) := by
  have h1 := run_le (call_le T C (max C N) (Nat.le_max_left ..)) N (max C N) (Nat.le_max_right ..) _ _ _ _ _ hr
  simp only [call, ht]
  rw [chk, if_pos hlt]
  unfold enter
  rw [chk, if_pos (by rw [hn]; rfl), hm]
  show chk (pures [] = true) _ = _
  refine (if_pos (rfl : pures [] = true)).trans ?_
  show bnd (run (call T (max C N)) (max C N) [.code d.body] [] [] 0) _ = _
  rw [h1]
  show bnd (finish d x) _ = _
  rw [hf]
  show bnd (frz x.2.2.1 deep v) _ = _
  rw [hz]
  rfl
end Go.FI
