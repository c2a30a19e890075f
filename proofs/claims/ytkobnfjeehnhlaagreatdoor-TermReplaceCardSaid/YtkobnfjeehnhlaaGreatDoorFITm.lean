/- Terms,as the interpreter's values. -/
import Derived.Test.YtkobnfjeehnhlaaGreatDoorFIX
set_option linter.all false
namespace Go.FI
inductive Tm' where
 |mk (k w b:Int) (s:List UInt8) (lo:Int) (e:Bool) (l:List Tm')
abbrev Te:=Tm'
instance:Inhabited Tm':=⟨.mk 0 0 0 [] 0 true []⟩
namespace Tm'
def k:Te→Int | .mk k _ _ _ _ _ _=>k
def w:Te→Int | .mk _ w _ _ _ _ _=>w
def b:Te→Int | .mk _ _ b _ _ _ _=>b
def s:Te→List UInt8 | .mk _ _ _ s _ _ _=>s
def lo:Te→Int | .mk _ _ _ _ lo _ _=>lo
def e:Te→Bool | .mk _ _ _ _ _ e _=>e
def l:Te→List Te | .mk _ _ _ _ _ _ l=>l
theorem ind {p:Te→Prop} (h:∀ t,(∀ x ∈ t.l,p x)→p t) (t:Te):p t :=
 Tm'.rec (motive_1:=p) (motive_2:=fun l=>∀ x ∈ l,p x) (fun k w b s lo e l ih=>h (.mk k w b s lo e l) ih) (fun x hx=>nomatch hx)
  (fun a l ha hl x hx=>by
   rcases List.mem_cons.1 hx with rfl | hx
   ·exact ha
   ·exact hl x hx) t
end Tm'
mutual
def tV:Te→FV
 |.mk k w b s lo e l=>.agg [.int .u8 k,.int .i64 w,.int .u64 b,.str s,.int .i64 lo,.lst e (tVs l)]
def tVs:List Te→List FV
 |[]=>[]
 |t::l=>tV t::tVs l
end
theorem tVs_map (l:List Te):tVs l=l.map tV:=by
 induction l with
 |nil=>rfl
 |cons t l ih=>simp only [tVs,List.map_cons,ih]
theorem tV_eq (t:Te):tV t=.agg [.int .u8 t.k,.int .i64 t.w,.int .u64 t.b,.str t.s,.int .i64 t.lo,.lst t.e (t.l.map tV)]:=by
 cases t with | mk k w b s lo e l=>simp only [tV,tVs_map,Tm'.k,Tm'.w,Tm'.b,Tm'.s,Tm'.lo,Tm'.e,Tm'.l]
theorem pu_all {α:Type} {f:α→FV} {l:List α} (h:∀ x ∈ l,pure_ (f x)=true):pures (l.map f)=true:=by
 induction l with
 |nil=>rfl
 |cons a l ih=>simp only [List.map_cons,pures,h a (by simp),ih fun x hx=>h x (by simp [hx]),Bool.and_self]
theorem lo_all {α:Type} {f:α→FV} {b:Nat} {l:List α} (h:∀ x ∈ l,low b (f x)=true):lows b (l.map f)=true:=by
 induction l with
 |nil=>rfl
 |cons a l ih=>simp only [List.map_cons,lows,h a (by simp),ih fun x hx=>h x (by simp [hx]),Bool.and_self]
theorem pu_T (t:Te):pure_ (tV t)=true:=by
 induction t using Tm'.ind with | h t ih=>simp [tV_eq t,pure_,pures,pu_all ih]
theorem lo_T (b:Nat) (t:Te):low b (tV t)=true:=by
 induction t using Tm'.ind with | h t ih=>simp [tV_eq t,low,lows,lo_all ih]
theorem pu_Ts (l:List Te):pures (l.map tV)=true:=pu_all fun x _=>pu_T x
theorem lo_Ts (b:Nat) (l:List Te):lows b (l.map tV)=true:=lo_all fun x _=>lo_T b x
theorem al_Ts (l:List Te):(l.map tV).all FV.ok=true:=by
 simp only [List.all_map,List.all_eq_true,Function.comp_apply]
 intro x _;rw [tV_eq];rfl
theorem cl_Ts (l:List Te):((l.map tV).all fun v=>v.cells.length == 6)=true:=by
 simp only [List.all_map,List.all_eq_true,Function.comp_apply]
 intro x _;rw [tV_eq];rfl
theorem gd_T {l:List Te} {i:Nat} {d:FV} (h:i < l.length):(l.map tV).getD i d=.agg [.int .u8 (l.getD i default).k,.int .i64 (l.getD i default).w,.int .u64 (l.getD i default).b,.str (l.getD i default).s,.int .i64 (l.getD i default).lo,.lst (l.getD i default).e ((l.getD i default).l.map tV)]:=by
 rw [← tV_eq];simp [List.getD,h]
theorem ge_T {l:List Te} {i:Nat} (h:i < l.length):(l.map tV)[i]? = some (.agg [.int .u8 (l.getD i default).k,.int .i64 (l.getD i default).w,.int .u64 (l.getD i default).b,.str (l.getD i default).s,.int .i64 (l.getD i default).lo,.lst (l.getD i default).e ((l.getD i default).l.map tV)]):=by
 rw [← tV_eq];simp [List.getD,h]
theorem drop_getD {α:Type} [Inhabited α] {l:List α} {i:Nat} (h:i < l.length):l.drop i=l.getD i default::l.drop (i + 1):=by
 rw [List.drop_eq_getElem_cons h];simp [List.getD,h]
theorem getD_mem {α:Type} {l:List α} {i:Nat} {d:α} (h:i < l.length):l.getD i d ∈ l:=by
 simp [List.getD,h]
theorem TL:type_of% (And.intro pu_Ts <| And.intro lo_Ts <| And.intro al_Ts <| And.intro cl_Ts <| And.intro @gd_T @ge_T):=And.intro pu_Ts <| And.intro lo_Ts <| And.intro al_Ts <| And.intro cl_Ts <| And.intro @gd_T @ge_T
mutual
def size:Te→Nat
 |.mk _ _ _ _ _ _ l=>1 + sizes l
def sizes:List Te→Nat
 |[]=>0
 |t::l=>size t + sizes l
end
mutual
def depth:Te→Nat
 |.mk _ _ _ _ _ _ l=>depths l + 1
def depths:List Te→Nat
 |[]=>0
 |t::l=>max (depth t) (depths l)
end
mutual
def nodesT:Te→List Te
 |.mk k w b s lo e l=>.mk k w b s lo e l::nodesL l
def nodesL:List Te→List Te
 |[]=>[]
 |t::l=>nodesT t ++ nodesL l
end
theorem size_eq (t:Te):size t=1 + sizes t.l:=by cases t;rfl
theorem depth_eq (t:Te):depth t=depths t.l + 1:=by cases t;rfl
theorem nodes_eq (t:Te):nodesT t=t::nodesL t.l:=by cases t;rfl
theorem sizes_cons (t:Te) (l:List Te):sizes (t::l)=size t + sizes l:=rfl
theorem depths_cons (t:Te) (l:List Te):depths (t::l)=max (depth t) (depths l):=rfl
theorem nodesL_cons (t:Te) (l:List Te):nodesL (t::l)=nodesT t ++ nodesL l:=rfl
theorem sizes_mem {x:Te}:∀ {l:List Te},x ∈ l→size x ≤ sizes l:=by
 intro l
 induction l with
 |nil=>intro h;cases h
 |cons a l ih =>
  intro h
  rw [sizes_cons]
  rcases List.mem_cons.1 h with rfl | h
  ·omega
  ·have:=ih h;omega
theorem size_mem {t x:Te} (h:x ∈ t.l):size x < size t:=by
 rw [size_eq t];have:=sizes_mem h;omega
theorem nodesL_mem {x y:Te}:∀ {l:List Te},x ∈ l→y ∈ nodesT x→y ∈ nodesL l:=by
 intro l
 induction l with
 |nil=>intro h;cases h
 |cons a l ih =>
  intro h hy
  rw [nodesL_cons,List.mem_append]
  rcases List.mem_cons.1 h with rfl | h
  ·exact .inl hy
  ·exact .inr (ih h hy)
theorem size_pos (t:Te):1 ≤ size t:=by rw [size_eq];omega
theorem depths_mem {x:Te}:∀ {l:List Te},x ∈ l→depth x ≤ depths l:=by
 intro l
 induction l with
 |nil=>intro h;cases h
 |cons a l ih =>
  intro h
  rw [depths_cons]
  rcases List.mem_cons.1 h with rfl | h
  ·omega
  ·have:=ih h;omega
theorem depths_le {n:Nat}:∀ {l:List Te},(∀ x ∈ l,depth x ≤ n)→depths l ≤ n:=by
 intro l
 induction l with
 |nil=>intro _;exact Nat.zero_le _
 |cons a l ih =>
  intro h
  rw [depths_cons]
  have:=h a (by simp);have:=ih fun x hx=>h x (by simp [hx]);omega
theorem depth_size (t:Te):depth t ≤ size t:=by
 induction t using Tm'.ind with | h t ih =>
 rw [depth_eq,size_eq]
 have:=depths_le (l:=t.l) (n:=sizes t.l) fun x hx=>Nat.le_trans (ih x hx) (sizes_mem hx)
 omega
theorem sizes_len (l:List Te):l.length ≤ sizes l:=by
 induction l with
 |nil=>simp [sizes]
 |cons a l ih=>rw [sizes_cons,List.length_cons];have:=size_pos a;omega
theorem nodesT_len (t:Te):(nodesT t).length=size t:=by
 induction t using Tm'.ind with | h t ih =>
 rw [nodes_eq,size_eq]
 have:∀ l:List Te,(∀ x ∈ l,(nodesT x).length=size x)→(nodesL l).length=sizes l:=by
  intro l
  induction l with
  |nil=>intro _;rfl
  |cons a l ihl=>intro h;rw [nodesL_cons,List.length_append,h a (by simp),ihl fun x hx=>h x (by simp [hx])];rfl
 simp only [List.length_cons,this t.l ih];omega
theorem nodes_size {t x:Te} (h:x ∈ nodesT t):size x ≤ size t:=by
 induction t using Tm'.ind with | h t ih =>
 rw [nodes_eq] at h
 rcases List.mem_cons.1 h with rfl | h
 ·exact Nat.le_refl _
 ·have:∀ l:List Te,(∀ y ∈ l,x ∈ nodesT y→size x ≤ size y)→x ∈ nodesL l→size x ≤ sizes l:=by
   intro l
   induction l with
   |nil=>intro _ h;cases h
   |cons a l ihl =>
    intro hy h
    rw [nodesL_cons,List.mem_append] at h
    rw [sizes_cons]
    rcases h with h | h
    ·have:=hy a (by simp) h;omega
    ·have:=ihl (fun y hy'=>hy y (by simp [hy'])) h;omega
  have:=this t.l ih h
  rw [size_eq t];omega
theorem nodes_len {t x:Te} (h:x ∈ nodesT t):x.l.length ≤ size t:=by
 have h1:=nodes_size h;have h2:=sizes_len x.l;rw [size_eq] at h1;omega
theorem mem_nodes (t:Te):t ∈ nodesT t:=by rw [nodes_eq];simp
theorem nodes_sub {t x y:Te} (hx:x ∈ t.l) (hy:y ∈ nodesT x):y ∈ nodesT t:=by
 rw [nodes_eq];exact List.mem_cons_of_mem _ (nodesL_mem hx hy)
mutual
def sameT:Te→Te→Bool
 |.mk k w b s lo _ l,.mk k' w' b' s' lo' _ l'=>decide (k=k') && decide (w=w') && decide (b=b') && (s == s') && decide (lo=lo') && sameL l l'
def sameL:List Te→List Te→Bool
 |[],[]=>true
 |a::l,b::m=>sameT a b && sameL l m
 |_,_=>false
end
theorem sameT_eq (a b:Te):sameT a b=(decide (a.k=b.k) && decide (a.w=b.w) && decide (a.b=b.b) && (a.s == b.s) && decide (a.lo=b.lo) && sameL a.l b.l):=by cases a;cases b;rfl
theorem sameL_len:∀ {l m:List Te},sameL l m=true→l.length=m.length:=by
 intro l
 induction l with
 |nil=>intro m h;cases m with | nil=>rfl | cons=>simp [sameL] at h
 |cons a l ih =>
  intro m h
  cases m with
  |nil=>simp [sameL] at h
  |cons b m=>simp only [sameL,Bool.and_eq_true] at h;simp [ih h.2]
theorem sameL_drop {l m:List Te} {i:Nat} (h1:i < l.length) (h2:i < m.length):sameL (l.drop i) (m.drop i)=(sameT (l.getD i default) (m.getD i default) && sameL (l.drop (i + 1)) (m.drop (i + 1))):=by
 rw [drop_getD h1,drop_getD h2];rfl
def nodeT (x:Te):Prop:=(0 ≤ x.k∧x.k < 256)∧(-9223372036854775808 ≤ x.w∧x.w ≤ 9223372036854775807)∧(0 ≤ x.b∧x.b < 18446744073709551616)∧x.s.length ≤ 9223372036854775807∧(-9223372036854775808 ≤ x.lo∧x.lo ≤ 9223372036854775807)∧x.l.length ≤ 9223372036854775807
def TOk (t:Te):Prop:=∀ x ∈ nodesT t,nodeT x
theorem TOk.sub {t x:Te} (h:TOk t) (hx:x ∈ t.l):TOk x:=fun y hy=>h y (nodes_sub hx hy)
theorem TOk.self {t:Te} (h:TOk t):nodeT t:=h t (mem_nodes t)
theorem sizes_drop {l:List Te} {i:Nat} (h:i < l.length):sizes (l.drop i)=size (l.getD i default) + sizes (l.drop (i + 1)):=by rw [drop_getD h,sizes_cons]
theorem depths_drop {l:List Te} {i:Nat} (h:i < l.length):depths (l.drop i)=max (depth (l.getD i default)) (depths (l.drop (i + 1))):=by rw [drop_getD h,depths_cons]
theorem nodesL_iff {l:List Te} {y:Te}:y ∈ nodesL l ↔ ∃ x ∈ l,y ∈ nodesT x:=by
 induction l with
 |nil=>simp [nodesL]
 |cons a l ih=>simp [nodesL_cons,ih]
theorem all_nodes {p:Te→Prop} {t:Te}:(∀ x ∈ nodesT t,p x) ↔ p t∧∀ x ∈ t.l,∀ y ∈ nodesT x,p y:=by
 rw [nodes_eq]
 constructor
 ·intro h;exact ⟨h t (by simp),fun x hx y hy=>h y (by simp [nodesL_iff];exact .inr ⟨x,hx,hy⟩)⟩
 ·rintro ⟨h1,h2⟩ x hx
  rcases List.mem_cons.1 hx with rfl | hx
  ·exact h1
  ·obtain ⟨y,hy,hxy⟩:=nodesL_iff.1 hx;exact h2 y hy x hxy
end Go.FI
