/- Terms that lie in objects of our own. -/
import Derived.Test.YtkobnfjeehnhlaaGreatDoorFIVis
set_option linter.all false
namespace Go.FI
mutual
def er:Te→Te
 |.mk k w b s lo _ l=>.mk k w b s lo false (ers l)
def ers:List Te→List Te
 |[]=>[]
 |t::l=>er t::ers l
end
theorem ers_map (l:List Te):ers l=l.map er:=by
 induction l with
 |nil=>rfl
 |cons t l ih=>simp only [ers,List.map_cons,ih]
theorem er_k (t:Te):(er t).k=t.k:=by cases t;rfl
theorem er_w (t:Te):(er t).w=t.w:=by cases t;rfl
theorem er_b (t:Te):(er t).b=t.b:=by cases t;rfl
theorem er_s (t:Te):(er t).s=t.s:=by cases t;rfl
theorem er_lo (t:Te):(er t).lo=t.lo:=by cases t;rfl
theorem er_l (t:Te):(er t).l=t.l.map er:=by cases t;simp only [er,Tm'.l,ers_map]
theorem er_eq (t:Te):er t=.mk t.k t.w t.b t.s t.lo false (t.l.map er):=by cases t;simp only [er,Tm'.k,Tm'.w,Tm'.b,Tm'.s,Tm'.lo,Tm'.l,ers_map]
theorem sizes_er {l:List Te} (h:∀ x ∈ l,size (er x)=size x):sizes (l.map er)=sizes l:=by
 induction l with
 |nil=>rfl
 |cons a l ih=>rw [List.map_cons,sizes_cons,sizes_cons,h a (by simp),ih fun x hx=>h x (by simp [hx])]
theorem size_er (t:Te):size (er t)=size t:=by
 induction t using Tm'.ind with | h t ih=>rw [size_eq,er_l,sizes_er ih,← size_eq]
theorem depths_er {l:List Te} (h:∀ x ∈ l,depth (er x)=depth x):depths (l.map er)=depths l:=by
 induction l with
 |nil=>rfl
 |cons a l ih=>rw [List.map_cons,depths_cons,depths_cons,h a (by simp),ih fun x hx=>h x (by simp [hx])]
theorem depth_er (t:Te):depth (er t)=depth t:=by
 induction t using Tm'.ind with | h t ih=>rw [depth_eq,er_l,depths_er ih,← depth_eq]
theorem nodesL_er {l:List Te} (h:∀ x ∈ l,nodesT (er x)=(nodesT x).map er):nodesL (l.map er)=(nodesL l).map er:=by
 induction l with
 |nil=>rfl
 |cons a l ih=>rw [List.map_cons,nodesL_cons,nodesL_cons,List.map_append,h a (by simp),ih fun x hx=>h x (by simp [hx])]
theorem nodes_er (t:Te):nodesT (er t)=(nodesT t).map er:=by
 induction t using Tm'.ind with | h t ih=>rw [nodes_eq,er_l,nodesL_er ih,nodes_eq t];rfl
theorem sameL_map {l m:List Te} (h:∀ x ∈ l,∀ y ∈ m,er x=er y→sameT x y=true) (e:l.map er=m.map er):sameL l m=true:=by
 induction l generalizing m with
 |nil=>cases m with | nil=>rfl | cons=>simp at e
 |cons a l ih =>
  cases m with
  |nil=>simp at e
  |cons b m =>
   simp only [List.map_cons,List.cons.injEq] at e
   simp only [sameL,h a (by simp) b (by simp) e.1,ih (fun x hx y hy=>h x (by simp [hx]) y (by simp [hy])) e.2,Bool.and_self]
theorem same_er (a:Te):∀ b:Te,er a=er b→sameT a b=true:=by
 induction a using Tm'.ind with | h a ih =>
 intro b e
 have hk:(er a).k=(er b).k:=by rw [e]
 have hw:(er a).w=(er b).w:=by rw [e]
 have hb:(er a).b=(er b).b:=by rw [e]
 have hs:(er a).s=(er b).s:=by rw [e]
 have hlo:(er a).lo=(er b).lo:=by rw [e]
 have hl:(er a).l=(er b).l:=by rw [e]
 rw [er_k,er_k] at hk;rw [er_w,er_w] at hw;rw [er_b,er_b] at hb;rw [er_s,er_s] at hs;rw [er_lo,er_lo] at hlo;rw [er_l,er_l] at hl
 rw [sameT_eq,sameL_map (fun x hx y _=>ih x hx y) hl]
 simp [hk,hw,hb,hs,hlo]
theorem varG_er (en:Env0) (x:Te):varG en (er x)=varG en x:=by unfold varG;rw [er_k,er_s,er_w]
theorem foldE_er:∀ (xs:List Te) (en:Env0),foldE varG en (xs.map er)=foldE varG en xs:=by
 intro xs
 induction xs with
 |nil=>intro en;rfl
 |cons x xs ih =>
  intro en
  simp only [List.map_cons,foldE,varG_er]
  cases varG en x with
  |inl en'=>exact ih en'
  |inr u=>rfl
theorem varsE_er (t:Te):varsE (er t)=varsE t:=by unfold varsE;rw [nodes_er,foldE_er]
mutual
def RpT (h:Heap) (a b:Nat):FV→Te→Prop
 |v,.mk k w bt s lo _ l=>∃ c,v=.agg [.int .u8 k,.int .i64 w,.int .u64 bt,.str s,.int .i64 lo,c]∧((∃ e,c=.lst e []∧l=[]) ∨ ∃ id xs,c=.sref 6 id l.length 0 l.length∧a ≤ id∧id < b∧hget h id=some (.row 6 xs)∧RpL h a b xs l)
def RpL (h:Heap) (a b:Nat):List FV→List Te→Prop
 |[],[]=>True
 |x::xs,t::l=>RpT h a b x t∧RpL h a b xs l
 |_,_=>False
end
def RpS (h:Heap) (a b:Nat) (c:FV) (l:List Te):Prop:=(∃ e,c=.lst e []∧l=[]) ∨ ∃ id xs,c=.sref 6 id l.length 0 l.length∧a ≤ id∧id < b∧hget h id=some (.row 6 xs)∧RpL h a b xs l
theorem RpT_iff {h:Heap} {a b:Nat} {v:FV} {t:Te}:RpT h a b v t ↔ ∃ c,v=.agg [.int .u8 t.k,.int .i64 t.w,.int .u64 t.b,.str t.s,.int .i64 t.lo,c]∧RpS h a b c t.l:=by
 cases t;simp only [RpT,RpS,Tm'.k,Tm'.w,Tm'.b,Tm'.s,Tm'.lo,Tm'.l]
theorem RpL.length {h:Heap} {a b:Nat}:∀ {xs:List FV} {l:List Te},RpL h a b xs l→xs.length=l.length:=by
 intro xs
 induction xs with
 |nil=>intro l hl;cases l with | nil=>rfl | cons=>exact hl.elim
 |cons x xs ih=>intro l hl;cases l with | nil=>exact hl.elim | cons t l=>simp [ih hl.2]
theorem RpL.app {h:Heap} {a b:Nat} {ys:List FV} {m:List Te} (hm:RpL h a b ys m):∀ {xs:List FV} {l:List Te},RpL h a b xs l→RpL h a b (xs ++ ys) (l ++ m):=by
 intro xs
 induction xs with
 |nil=>intro l hl;cases l with | nil=>exact hm | cons=>exact hl.elim
 |cons x xs ih=>intro l hl;cases l with | nil=>exact hl.elim | cons t l=>exact ⟨hl.1,ih hl.2⟩
theorem RpL.mono' {h h':Heap} {a b a' b':Nat}:∀ {l:List Te},(∀ t ∈ l,∀ v,RpT h a b v t→RpT h' a' b' v t)→∀ {xs:List FV},RpL h a b xs l→RpL h' a' b' xs l:=by
 intro l
 induction l with
 |nil=>intro _ xs hl;cases xs with | nil=>trivial | cons=>exact hl.elim
 |cons t l ih=>intro ht xs hl;cases xs with | nil=>exact hl.elim | cons x xs=>exact ⟨ht t (by simp) x hl.1,ih (fun t' h'=>ht t' (by simp [h'])) hl.2⟩
theorem RpT.mono {h h':Heap} {a b a' b':Nat} (ha:a' ≤ a) (hb:b ≤ b') (hh:∀ i,a ≤ i→i < b→hget h' i=hget h i) {t:Te}:∀ {v:FV},RpT h a b v t→RpT h' a' b' v t:=by
 induction t using Tm'.ind with | h t ih =>
 intro v hv
 obtain ⟨c,h1,hc⟩:=RpT_iff.1 hv
 refine RpT_iff.2 ⟨c,h1,?_⟩
 rcases hc with hc | ⟨id,xs,h1,h2,h3,h4,h5⟩
 ·exact .inl hc
 ·exact .inr ⟨id,xs,h1,by omega,by omega,by rw [hh id h2 h3];exact h4,RpL.mono' (fun x hx v hv=>ih x hx hv) h5⟩
theorem RpL.mono {h h':Heap} {a b a' b':Nat} (ha:a' ≤ a) (hb:b ≤ b') (hh:∀ i,a ≤ i→i < b→hget h' i=hget h i) {xs:List FV} {l:List Te} (hl:RpL h a b xs l):RpL h' a' b' xs l :=
 RpL.mono' (fun _ _ _ hv=>hv.mono ha hb hh) hl
theorem RpS.mono {h h':Heap} {a b a' b':Nat} (ha:a' ≤ a) (hb:b ≤ b') (hh:∀ i,a ≤ i→i < b→hget h' i=hget h i) {c:FV} {l:List Te} (hl:RpS h a b c l):RpS h' a' b' c l:=by
 rcases hl with hc | ⟨id,xs,h1,h2,h3,h4,h5⟩
 ·exact .inl hc
 ·exact .inr ⟨id,xs,h1,by omega,by omega,by rw [hh id h2 h3];exact h4,h5.mono ha hb hh⟩
theorem frzs_c' {h:Heap} {n:Nat} {v v':FV} {r r':List FV} (h1:frz h n v=some v') (h2:frzs h n r=some r'):frzs h (n + 1) (v::r)=some (v'::r'):=by rw [fzs_c,h1,B_some,h2,B_some]
theorem RpL.frz' {h:Heap} {a b:Nat}:∀ {l:List Te},(∀ t ∈ l,∀ v n,RpT h a b v t→10 * size t ≤ n→∃ t',er t'=er t∧frz h n v=some (tV t'))→∀ {xs:List FV} {n:Nat},RpL h a b xs l→10 * sizes l + 1 ≤ n→∃ l':List Te,l'.map er=l.map er∧frzs h n xs=some (l'.map tV):=by
 intro l
 induction l with
 |nil=>intro _ xs n hl _;cases xs with | nil=>exact ⟨[],rfl,fzs_n⟩ | cons=>exact hl.elim
 |cons t l ih =>
  intro ht xs n hl hn
  cases xs with
  |nil=>exact hl.elim
  |cons x xs =>
   rw [sizes_cons] at hn
   have:=size_pos t
   obtain ⟨m,rfl⟩:∃ m,n=m + 1:=⟨n - 1,by omega⟩
   obtain ⟨t',e1,h1⟩:=ht t (by simp) x m hl.1 (by omega)
   obtain ⟨l',e2,h2⟩:=ih (fun t' h'=>ht t' (by simp [h'])) (n:=m) hl.2 (by omega)
   exact ⟨t'::l',by simp [e1,e2],frzs_c' h1 h2⟩
theorem RpT.frz {h:Heap} {a b:Nat} {t:Te}:∀ {v:FV} {n:Nat},RpT h a b v t→10 * size t ≤ n→∃ t',er t'=er t∧FI.frz h n v=some (tV t'):=by
 induction t using Tm'.ind with | h t ih =>
 intro v n hv hn
 obtain ⟨c,rfl,hc⟩:=RpT_iff.1 hv
 rw [size_eq] at hn
 obtain ⟨m,rfl⟩:∃ m,n=m + 8:=⟨n - 8,by omega⟩
 have key:∀ (e:Bool) (l':List Te),l'.map er=t.l.map er→FI.frz h (m + 1) c=some (.lst e (l'.map tV))→∃ t',er t'=er t∧FI.frz h (m + 8) (.agg [.int .u8 t.k,.int .i64 t.w,.int .u64 t.b,.str t.s,.int .i64 t.lo,c])=some (tV t'):=by
  intro e l' h1 h2
  have e3:tV (.mk t.k t.w t.b t.s t.lo e l')=.agg [.int .u8 t.k,.int .i64 t.w,.int .u64 t.b,.str t.s,.int .i64 t.lo,.lst e (l'.map tV)]:=by rw [tV_eq];rfl
  have e4:er (.mk t.k t.w t.b t.s t.lo e l')=er t:=by
   rw [er_eq t,er_eq,← h1];rfl
  refine ⟨.mk t.k t.w t.b t.s t.lo e l',e4,?_⟩
  rw [e3]
  rw [show m + 8=(m + 7) + 1 from rfl,fz_agg (by simp),frzs_c' (v':=.int .u8 t.k) (r':=[.int .i64 t.w,.int .u64 t.b,.str t.s,.int .i64 t.lo,.lst e (l'.map tV)]) frz_int]
  ·rfl
  rw [show m + 6=(m + 5) + 1 from rfl]
  refine frzs_c' frz_int ?_
  rw [show m + 5=(m + 4) + 1 from rfl]
  refine frzs_c' frz_int ?_
  rw [show m + 4=(m + 3) + 1 from rfl]
  refine frzs_c' frz_str ?_
  rw [show m + 3=(m + 2) + 1 from rfl]
  refine frzs_c' frz_int ?_
  rw [show m + 2=(m + 1) + 1 from rfl]
  exact frzs_c' h2 (by cases m<;>rfl)
 rcases hc with ⟨e,rfl,hl⟩ | ⟨id,xs,rfl,h2,h3,h4,h5⟩
 ·exact key e [] (by rw [hl]) (frz_pure rfl)
 ·obtain ⟨l',e2,hx⟩:=RpL.frz' (n:=m) (fun x hx v n hv hn=>ih x hx hv hn) h5 (by omega)
  have hlen:=h5.length
  refine key false l' e2 ?_
  rw [fz_ref (by decide),el_r,h4,elRow_r,Ck_pos ⟨hlen,by omega⟩,B_some,cut_d]
  have e:List.take (0 + t.l.length - 0) (List.drop 0 xs)=xs:=by rw [List.drop_zero];exact List.take_of_length_le (by omega)
  rw [e,hx,B_some]
theorem RpS.frz {h:Heap} {a b:Nat} {c:FV} {l:List Te} (hc:RpS h a b c l) {n:Nat} (hn:10 * sizes l + 2 ≤ n):∃ v,FI.frz h n c=some v∧∃ (e:Bool) (l':List Te),l'.map er=l.map er∧v=.lst e (l'.map tV):=by
 obtain ⟨m,rfl⟩:∃ m,n=m + 1:=⟨n - 1,by omega⟩
 rcases hc with ⟨e,rfl,hl⟩ | ⟨id,xs,rfl,h2,h3,h4,h5⟩
 ·exact ⟨_,frz_pure rfl,e,[],by rw [hl],rfl⟩
 ·obtain ⟨l',e2,hx⟩:=RpL.frz' (n:=m) (fun x hx v n hv hn=>hv.frz hn) h5 (by omega)
  have hlen:=h5.length
  refine ⟨_,?_,false,l',e2,rfl⟩
  rw [fz_ref (by decide),el_r,h4,elRow_r,Ck_pos ⟨hlen,by omega⟩,B_some,cut_d]
  have e:List.take (0 + l.length - 0) (List.drop 0 xs)=xs:=by rw [List.drop_zero];exact List.take_of_length_le (by omega)
  rw [e,hx,B_some]
def Ext (h h':Heap) (nx nx':Nat):Prop:=nx ≤ nx'∧∀ i,i < nx→hget h' i=hget h i
theorem Ext.refl (h:Heap) (nx:Nat):Ext h h nx nx:=⟨Nat.le_refl _,fun _ _=>rfl⟩
theorem Ext.trans {h h' h'':Heap} {nx nx' nx'':Nat} (h1:Ext h h' nx nx') (h2:Ext h' h'' nx' nx''):Ext h h'' nx nx'' :=
 ⟨Nat.le_trans h1.1 h2.1,fun i hi=>by have:=h1.1;rw [h2.2 i (by omega),h1.2 i hi]⟩
theorem take_succ {α:Type} [Inhabited α] {l:List α} {i:Nat} (h:i < l.length):l.take (i + 1)=l.take i ++ [l.getD i default]:=by
 rw [List.take_add_one];simp [List.getD,h]
end Go.FI
