/- What simp evaluates the interpreter with. -/
import Derived.Test.YtkobnfjeehnhlaaGreatDoorFILim
set_option linter.all false
namespace Go.FI
theorem bnd_s {α β:Type} (a:α) (f:α→Option β):bnd (some a) f=f a:=rfl
theorem enter_isoE {rn:List I→Tm→Heap→Nat→Option (Ex × Tm × Heap × Nat)} {f:Fn} (hm:f.mode=.iso) {args:List FV} {h:Heap} {nx:Nat} (hn:args.length=f.np) (hp:pures args=true) :
  enterWith rn f args h nx=bnd (rn [.code f.body] (params 0 args) [] 0) fun x=>bnd (finish f x) fun v=>bnd (frz x.2.2.1 deep v) fun r=>some (r,h,nx):=by
 unfold enterWith
 rw [chk,if_pos hn,hm]
 simp only
 rw [chk,if_pos hp]
theorem wrap64 {n:Int} (h1:-9223372036854775808 ≤ n) (h2:n ≤ 9223372036854775807):IntKind.i64.wrap n=n:=by
 simp [IntKind.wrap,IntKind.bits,IntKind.signed]
 omega
theorem tdiv_nn {a b:Int} (h:0 ≤ a):a.tdiv b=a / b:=Int.tdiv_eq_ediv_of_nonneg h
theorem frz_agg {h:Heap} {n:Nat} {cs:List FV} (hp:pure_ (.agg cs)=false):frz h (n + 1) (.agg cs)=bnd (frzs h n cs) fun r=>some (.agg r):=by
 simp [frz,hp]
theorem frz_tup {h:Heap} {n:Nat} {cs:List FV} (hp:pure_ (.tup cs)=false):frz h (n + 1) (.tup cs)=bnd (frzs h n cs) fun r=>some (.tup r):=by
 simp [frz,hp]
theorem frz_sref {h:Heap} {n:Nat} {es id st off len:Nat} (he:es ≠ 0):frz h (n + 1) (.sref es id st off len)=bnd (elems h (.sref es id st off len)) fun xs=>bnd (frzs h n xs) fun r=>some (.lst false r):=by
 simp [frz,pure_,chk,he]
theorem frzs_pure {h:Heap}:∀ {vs:List FV} {n:Nat},pures vs=true→vs.length ≤ n→frzs h n vs=some vs:=by
 intro vs
 induction vs with
 |nil=>intro n _ _;cases n<;>simp [frzs]
 |cons v vs ih =>
  intro n hp hn
  obtain ⟨k,rfl⟩:∃ k,n=k + 1:=⟨n - 1,by simp at hn;omega⟩
  simp only [pures,Bool.and_eq_true] at hp
  simp only [frzs,frz_pure hp.1,bnd,ih hp.2 (by simp at hn;omega)]
end Go.FI
