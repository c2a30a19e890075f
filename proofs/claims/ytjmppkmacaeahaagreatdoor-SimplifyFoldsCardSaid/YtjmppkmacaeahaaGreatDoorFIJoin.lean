/- Parts of the proof, one behind the other. -/
import Derived.Test.YtjmppkmacaeahaaGreatDoorSF3
import Derived.Room.Shelf.Join48
set_option linter.all false
namespace Go.FI
open Go.RowKit Go.Shelf Go.Proofs
variable [Sys]
omit [Sys] in
theorem strsV_some:∀ {xs:List FV} {l:List (List UInt8)},strsV xs=some l→xs=l.map .str:=by
 intro xs
 induction xs with
 |nil=>intro l h;simp [strsV] at h;subst h;rfl
 |cons x xs ih =>
  intro l h
  cases x<;>simp only [strsV] at h<;>try (cases h;done)
  obtain ⟨r,h1,h2⟩:=bnd_some h
  simp only [Option.some.injEq] at h2
  subst h2
  rw [ih h1];rfl
theorem RL_strs {g:Gh} {w:World}:∀ {l:List (List UInt8)} {cs:List Value},RL g w ((l.map FV.str).flatMap FV.cells) cs→∃ bas:List ByteArray,cs=bas.map .string∧bas.map (·.data.toList)=l:=by
 intro l
 induction l with
 |nil=>intro cs h;cases h;exact ⟨[],rfl,rfl⟩
 |cons s l ih =>
  intro cs h
  rw [List.map_cons,List.flatMap_cons] at h
  obtain ⟨c1,c2,rfl,h1,h2⟩:=h.split
  obtain ⟨bas,rfl,e2⟩:=ih h2
  cases h1 with | cons _ x _ xs hx hn =>
  cases hn
  generalize hs:FV.str s=q at hx
  cases hx with
  |str ba =>
   cases hs
   exact ⟨ba::bas,rfl,by simp [e2]⟩
  |_=>cases hs
theorem join_ext {P:Program} {ρ:Ren} (L:Lays.n156 P ρ) (X:Builder.Extra P ρ) {f:Nat} (hf:ρ.f 156=f) (he:entered P f=true):ExtOk P f joinX:=by
 subst hf
 refine ⟨he,fun args v hv Z w xs hz _ hx=>?_⟩
 unfold joinX at hv
 split at hv
 case h_2=>cases hv
 rename_i e ys sep
 obtain ⟨l,h1,hv⟩:=bnd_some hv
 obtain ⟨⟨h2,h3⟩,hv⟩:=chk_some hv
 simp only [Option.some.injEq] at hv
 subst hv
 have hys:=strsV_some h1
 subst hys
 cases hx with | cons _ y _ r hy hr =>
 cases hr with | cons _ z _ r2 hz2 hr2 =>
 cases hr2
 generalize hs:FV.str sep=q at hz2
 cases hz2 with
 |str sb =>
  cases hs
  generalize hq:FV.lst e (l.map FV.str)=q at hy
  cases hy with
  |lst0 e' a cap he' =>
   cases l with
   |cons=>simp at hq
   |nil =>
    refine (Any.strings_Join_none L X a cap sb w).mono ?_
    rintro e2 w' ⟨rfl,rfl⟩
    refine ⟨_,rfl,Below.refl _ _,?_⟩
    have:Lib.join [] sb.data.toList=(⟨#[]⟩:ByteArray).data.toList:=rfl
    rw [this]
    exact .str _
  |lst e' xs' b o es cap cs hne he' hle hZ hes hx' hr hc =>
   cases hq
   obtain ⟨bas,rfl,e3⟩:=RL_strs hr
   have hlen:(l.map FV.str).length=bas.length:=by rw [← e3];simp
   rw [hlen] at hle ⊢
   refine (Any.strings_Join_48 L X b o cap bas sb w (fun j x hj=>hc j _ (by simp [hj])) (hz b hZ) (by rw [← hlen];simpa using h2) hle (by rw [e3];exact h3)).mono ?_
   rintro e2 w' ⟨rfl,hb⟩
   refine ⟨_,rfl,hb,?_⟩
   rw [e3]
   have:=R.str (g:=⟨fun _=>none,zone Z w w'⟩) (w:=w') ⟨(Lib.join l sb.data.toList).toArray⟩
   simpa using this
  |_=>cases hq
 |_=>cases hs
end Go.FI
