/- Terms, as the interpreter's values. -/
import Derived.Test.YtkobnfjeehnhlaaGreatDoorFIX
set_option linter.all false
set_option linter.unusedSimpArgs false
set_option linter.unusedVariables false
set_option linter.unusedSectionVars false
namespace Go.FI

inductive Tm' where
  | mk (k w b : Int) (s : List UInt8) (lo : Int) (e : Bool) (l : List Tm')
abbrev Te := Tm'
instance : Inhabited Tm' := ⟨.mk 0 0 0 [] 0 true []⟩
namespace Tm'
def k : Te → Int | .mk k _ _ _ _ _ _ => k
def w : Te → Int | .mk _ w _ _ _ _ _ => w
def b : Te → Int | .mk _ _ b _ _ _ _ => b
def s : Te → List UInt8 | .mk _ _ _ s _ _ _ => s
def lo : Te → Int | .mk _ _ _ _ lo _ _ => lo
def e : Te → Bool | .mk _ _ _ _ _ e _ => e
def l : Te → List Te | .mk _ _ _ _ _ _ l => l
theorem eta (t : Te) : t = .mk t.k t.w t.b t.s t.lo t.e t.l := by cases t; rfl
theorem ind {p : Te → Prop} (h : ∀ t, (∀ x ∈ t.l, p x) → p t) (t : Te) : p t :=
  Tm'.rec (motive_1 := p) (motive_2 := fun l => ∀ x ∈ l, p x) (fun k w b s lo e l ih => h (.mk k w b s lo e l) ih) (fun x hx => nomatch hx)
    (fun a l ha hl x hx => by
      rcases List.mem_cons.1 hx with rfl | hx
      · exact ha
      · exact hl x hx) t
end Tm'

mutual
def tV : Te → FV
  | .mk k w b s lo e l => .agg [.int .u8 k, .int .i64 w, .int .u64 b, .str s, .int .i64 lo, .lst e (tVs l)]
def tVs : List Te → List FV
  | [] => []
  | t :: l => tV t :: tVs l
end
theorem tVs_map (l : List Te) : tVs l = l.map tV := by
  induction l with
  | nil => rfl
  | cons t l ih => simp only [tVs, List.map_cons, ih]
theorem tV_eq (t : Te) : tV t = .agg [.int .u8 t.k, .int .i64 t.w, .int .u64 t.b, .str t.s, .int .i64 t.lo, .lst t.e (t.l.map tV)] := by
  cases t with | mk k w b s lo e l => simp only [tV, tVs_map, Tm'.k, Tm'.w, Tm'.b, Tm'.s, Tm'.lo, Tm'.e, Tm'.l]
theorem pu_all {α : Type} {f : α → FV} {l : List α} (h : ∀ x ∈ l, pure_ (f x) = true) : pures (l.map f) = true := by
  induction l with
  | nil => rfl
  | cons a l ih => simp only [List.map_cons, pures, h a (by simp), ih fun x hx => h x (by simp [hx]), Bool.and_self]
theorem lo_all {α : Type} {f : α → FV} {b : Nat} {l : List α} (h : ∀ x ∈ l, low b (f x) = true) : lows b (l.map f) = true := by
  induction l with
  | nil => rfl
  | cons a l ih => simp only [List.map_cons, lows, h a (by simp), ih fun x hx => h x (by simp [hx]), Bool.and_self]
theorem pu_T (t : Te) : pure_ (tV t) = true := by
  induction t using Tm'.ind with | h t ih => simp [tV_eq t, pure_, pures, pu_all ih]
theorem lo_T (b : Nat) (t : Te) : low b (tV t) = true := by
  induction t using Tm'.ind with | h t ih => simp [tV_eq t, low, lows, lo_all ih]
theorem pu_Ts (l : List Te) : pures (l.map tV) = true := pu_all fun x _ => pu_T x
theorem lo_Ts (b : Nat) (l : List Te) : lows b (l.map tV) = true := lo_all fun x _ => lo_T b x
theorem al_Ts (l : List Te) : (l.map tV).all FV.ok = true := by
  simp only [List.all_map, List.all_eq_true, Function.comp_apply]
  intro x _; rw [tV_eq]; rfl
theorem cl_Ts (l : List Te) : ((l.map tV).all fun v => v.cells.length == 6) = true := by
  simp only [List.all_map, List.all_eq_true, Function.comp_apply]
  intro x _; rw [tV_eq]; rfl
theorem gd_T {l : List Te} {i : Nat} {d : FV} (h : i < l.length) : (l.map tV).getD i d = .agg [.int .u8 (l.getD i default).k, .int .i64 (l.getD i default).w, .int .u64 (l.getD i default).b, .str (l.getD i default).s, .int .i64 (l.getD i default).lo, .lst (l.getD i default).e ((l.getD i default).l.map tV)] := by
  rw [← tV_eq]; simp [List.getD, h]
theorem ge_T {l : List Te} {i : Nat} (h : i < l.length) : (l.map tV)[i]? = some (.agg [.int .u8 (l.getD i default).k, .int .i64 (l.getD i default).w, .int .u64 (l.getD i default).b, .str (l.getD i default).s, .int .i64 (l.getD i default).lo, .lst (l.getD i default).e ((l.getD i default).l.map tV)]) := by
  rw [← tV_eq]; simp [List.getD, h]
theorem drop_getD {α : Type} [Inhabited α] {l : List α} {i : Nat} (h : i < l.length) : l.drop i = l.getD i default :: l.drop (i + 1) := by
  rw [List.drop_eq_getElem_cons h]; simp [List.getD, h]
theorem getD_mem {α : Type} {l : List α} {i : Nat} {d : α} (h : i < l.length) : l.getD i d ∈ l := by
  simp [List.getD, h]
theorem TL : type_of% (And.intro pu_Ts <| And.intro lo_Ts <| And.intro al_Ts <| And.intro cl_Ts <| And.intro @gd_T @ge_T) := And.intro pu_Ts <| And.intro lo_Ts <| And.intro al_Ts <| And.intro cl_Ts <| And.intro @gd_T @ge_T

/-! ### measures -/
mutual
def size : Te → Nat
  | .mk _ _ _ _ _ _ l => 1 + sizes l
def sizes : List Te → Nat
  | [] => 0
  | t :: l => size t + sizes l
end
mutual
def depth : Te → Nat
  | .mk _ _ _ _ _ _ l => depths l + 1
def depths : List Te → Nat
  | [] => 0
  | t :: l => max (depth t) (depths l)
end
mutual
/-- The nodes, in order. -/
def nodesT : Te → List Te
  | .mk k w b s lo e l => .mk k w b s lo e l :: nodesL l
def nodesL : List Te → List Te
  | [] => []
  | t :: l => nodesT t ++ nodesL l
end
theorem size_eq (t : Te) : size t = 1 + sizes t.l := by cases t; rfl
theorem depth_eq (t : Te) : depth t = depths t.l + 1 := by cases t; rfl
theorem nodes_eq (t : Te) : nodesT t = t :: nodesL t.l := by cases t; rfl
theorem sizes_cons (t : Te) (l : List Te) : sizes (t :: l) = size t + sizes l := rfl
theorem depths_cons (t : Te) (l : List Te) : depths (t :: l) = max (depth t) (depths l) := rfl
theorem nodesL_cons (t : Te) (l : List Te) : nodesL (t :: l) = nodesT t ++ nodesL l := rfl
theorem size_pos (t : Te) : 1 ≤ size t := by rw [size_eq]; omega
theorem depth_pos (t : Te) : 1 ≤ depth t := by rw [depth_eq]; omega
theorem nodesT_len (t : Te) : (nodesT t).length = size t := by
  induction t using Tm'.ind with | h t ih =>
  rw [nodes_eq, size_eq]
  have : ∀ l : List Te, (∀ x ∈ l, (nodesT x).length = size x) → (nodesL l).length = sizes l := by
    intro l
    induction l with
    | nil => intro _; rfl
    | cons a l ihl => intro h; rw [nodesL_cons, List.length_append, h a (by simp), ihl fun x hx => h x (by simp [hx])]; rfl
  simp only [List.length_cons, this t.l ih]; omega
end Go.FI
