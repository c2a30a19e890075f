/- A part of the proof: see the last text. -/
import Derived.Test.YtkobnfjeehnhlaaGreatDoorFIOpv
set_option linter.all false
namespace Go.FI
open Go.RowKit
variable [Sys]
section
variable {g:Gh} {w:World} {P:Program}
mutual
theorem eqv_self:∀ a:FV,eqv a a=true
 |.undef | .nilp | .nilm | .nilf | .nili=>by simp [eqv]
 |.bool _ | .int _ _ | .str _ | .ptr .. | .sref .. | .map _=>by simp [eqv]
 |.agg a | .tup a=>by simp [eqv,eqvs_self a]
 |.lst _ a | .eptr a _ | .fn _ a=>by simp [eqv,eqvs_self a]
 |.yl _ _ a=>by simp [eqv,eqvs_self a]
 |.ifc _ a=>by simp [eqv,eqv_self a]
 |.pan a=>by simp [eqv,eqv_self a]
theorem eqvs_self:∀ a:List FV,eqvs a a=true
 |[]=>by simp [eqvs]
 |a::r=>by simp [eqvs,eqv_self a,eqvs_self r]
end
theorem still_some {h:Heap} {m:Tm} {o:O} {d:Nat} (hs:still h m o d=true):opv h m o=some (gt m d):=by
 unfold still at hs
 split at hs
 ·rename_i hv;rw [hv,eqv_eq hs]
 ·simp at hs
theorem unop_sound {op:UnOp} {x v:FV} {vx:Value} (hx:R g w x vx) (h:unop op x=some v):∃ z,(Op.unary op vx).run P w=.ok z w∧R g w v z:=by
 unfold unop at h
 split at h
 ·rename_i k a
  cases hx
  split at h<;>simp at h
  ·subst h;exact ⟨_,by simp [Op.unary,Op.intArith],.int _ _⟩
  ·subst h;exact ⟨_,by simp [Op.unary,Op.intBits,bxor],.int _ _⟩
 ·rename_i b
  cases hx
  split at h<;>simp at h
  subst h;exact ⟨_,by simp [Op.unary],.bool _⟩
 ·simp at h
theorem asInt_sound {x:FV} {vx:Value} {n:Int} (hx:R g w x vx) (h:asInt x=some n):∃ k,vx=.int k n:=by
 unfold asInt at h
 split at h<;>simp at h
 subst h;cases hx;exact ⟨_,rfl⟩
theorem sliceBound_run (k:IntKind) (i:Int) (y:Nat) (code:BoundsCode) (h0:0 ≤ i) (h1:i ≤ y):(Instr.sliceBound (.int k i) y code).run P w=.ok i.toNat w:=by
 simp [Instr.sliceBound,asIntOf,h0,h1]
theorem sliceBounds_run {m:Tm} {a:Act} (hm:RT g w m a) {lo hi:Option X} {lo' hi':Option Operand} (hlo:okOpt lo' lo=true) (hhi:okOpt hi' hi=true) (sl:Bool) (len cap:Nat) {l h:Int}
  (eh:optInt m len hi=some h) (el:optInt m 0 lo=some l) (h0:0 ≤ l) (h1:l ≤ h) (h2:h ≤ len) (hc:len ≤ cap) :
  (Instr.sliceBounds sl len cap (lo'.map a.eval) (hi'.map a.eval) none).run P w=.ok (l.toNat,h.toNat,cap) w:=by
 have eqh:∀ k,(Instr.sliceBound (.int k h) cap (if sl then .sliceAcap else .sliceAlen)).run P w=.ok h.toNat w:=fun k=>sliceBound_run _ _ _ _ (by omega) (by omega)
 have eql:∀ k,(Instr.sliceBound (.int k l) h.toNat .sliceB).run P w=.ok l.toNat w:=fun k=>sliceBound_run _ _ _ _ (by omega) (by omega)
 cases hi with
 |none =>
  cases hi'<;>simp [okOpt] at hhi
  simp [optInt] at eh;subst eh
  cases lo with
  |none =>
   cases lo'<;>simp [okOpt] at hlo
   simp [optInt] at el;subst el
   simp [Instr.sliceBounds]
  |some x =>
   cases lo'<;>simp [okOpt] at hlo
   obtain ⟨k,hk⟩:=asInt_sound (R_okX hm hlo) el
   have:=eql k
   simp at this
   simp [Instr.sliceBounds,hk,this]
 |some y =>
  cases hi'<;>simp [okOpt] at hhi
  obtain ⟨k,hk⟩:=asInt_sound (R_okX hm hhi) eh
  have eh':=eqh k
  cases lo with
  |none =>
   cases lo'<;>simp [okOpt] at hlo
   simp [optInt] at el;subst el
   simp [Instr.sliceBounds,hk,eh']
  |some x =>
   cases lo'<;>simp [okOpt] at hlo
   obtain ⟨k',hk'⟩:=asInt_sound (R_okX hm hlo) el
   simp [Instr.sliceBounds,hk,eh',hk',eql k']
theorem slice_sound {m:Tm} {a:Act} (hm:RT g w m a) {t:TypeId} {es:Nat} {x v:FV} {vx:Value} {lo hi:Option X} {lo' hi':Option Operand} (hx:R g w x vx)
  (hlo:okOpt lo' lo=true) (hhi:okOpt hi' hi=true) (ht:isDesc P t (if es=0 then isStr else isSl P es)=true) (h:slice m es x lo hi=some v) :
  ∃ z,(Instr.sliceAt t vx (lo'.map a.eval) (hi'.map a.eval) none).run P w=.ok z w∧R g w v z:=by
 obtain ⟨d,hd,hp⟩:=desc_of ht
 unfold slice at h
 split at h
 ·rename_i s
  obtain ⟨hi1,eh,hB⟩:=bnd_some h
  obtain ⟨lo1,el,hC⟩:=bnd_some hB
  obtain ⟨⟨h0,h1,h2,h3⟩,hD⟩:=chk_some hC
  clear h hB hC
  subst h0
  simp at hD;subst hD
  simp at hp
  cases hx with | str s =>
  have:d=.string:=by cases d<;>simp [isStr] at hp;rfl
  subst this
  have hb:=sliceBounds_run (P:=P) (w:=w) hm hlo hhi false s.data.toList.length s.data.toList.length eh el h1 h2 h3 (Nat.le_refl _)
  have e:s.data.toList.length=s.size:=rfl
  rw [e] at hb
  refine ⟨.string (s.extract lo1.toNat hi1.toNat),?_,?_⟩
  ·simp [Instr.sliceAt,underlying,hd,Instr.slice,hb]
  ·have:(s.extract lo1.toNat hi1.toNat).data.toList=cut s.data.toList lo1.toNat hi1.toNat:=by
    simp [cut,ByteArray.data_extract]
   rw [← this];exact .str _
 ·rename_i e xs
  obtain ⟨hi1,eh,hB⟩:=bnd_some h
  obtain ⟨lo1,el,hC⟩:=bnd_some hB
  obtain ⟨⟨⟨h0,h1,h2,h3⟩,hes⟩,hD⟩:=chk_some hC
  clear h hB hC
  simp [h0] at hp
  simp at hD;subst hD
  cases d<;>simp [isSl] at hp
  rename_i elem
  have hrest:∀ (aa:Option Addr) (cap:Nat),xs.length ≤ cap→(Instr.sliceAt t (.slice aa xs.length cap) (lo'.map a.eval) (hi'.map a.eval) none).run P w=.ok (.slice (if cap=lo1.toNat then aa else aa.map (·.add (lo1.toNat * es))) (hi1.toNat - lo1.toNat) (cap - lo1.toNat)) w:=by
   intro aa cap hc
   have hb:=sliceBounds_run (P:=P) (w:=w) hm hlo hhi true xs.length cap eh el h1 h2 h3 hc
   simp [Instr.sliceAt,underlying,hd,Instr.slice,hb,run_sizeOf w hp.1]
  cases hx with
  |lst0 _ aa cap he =>
   refine ⟨_,hrest aa cap (Nat.zero_le _),?_⟩
   simp at h3
   have e1:hi1.toNat=0:=by omega
   have e2:lo1.toNat=0:=by omega
   have e3:hi1=0:=by omega
   rw [e1,e2]
   simp only [cut,List.drop_nil,List.take_nil]
   refine .lst0 _ _ _ fun he'=>?_
   simp at he'
   have:=he he'.1
   omega
  |lst _ _ b o es' cap cs hne he hle hZ hes' hx' hr hc =>
   refine ⟨_,hrest _ cap hle,?_⟩
   have ees:es'=es:=by
    cases xs with
    |nil=>simp at hne
    |cons y ys=>have:=hx' y (by simp);simp [lstOk] at hes;omega
   subst ees
   by_cases hem:lo1.toNat=hi1.toNat
   ·rw [hem,Nat.sub_self]
    have:cut xs hi1.toNat hi1.toNat=[]:=by simp [cut]
    rw [this]
    refine .lst0 _ _ _ fun he'=>?_
    simp at he'
    have:=he he'.1
    omega
   ·have hl:(cut xs lo1.toNat hi1.toNat).length=hi1.toNat - lo1.toNat:=cut_length _ _ _ (by omega)
    rw [if_neg (by omega),← hl]
    simp only [Option.map_some,add_addr]
    have hflat:(cut xs lo1.toNat hi1.toNat).flatMap FV.cells=cut (xs.flatMap FV.cells) (lo1.toNat * es') (hi1.toNat * es'):=by
     have hx'':∀ x ∈ xs.drop lo1.toNat,x.cells.length=es':=fun x hx=>(hx' x (List.mem_of_mem_drop hx)).1
     unfold cut
     rw [flat_drop (fun x hx=>(hx' x hx).1),← Nat.mul_sub_right_distrib,flat_take hx'']
    refine .lst _ _ b (o + lo1.toNat * es') es' _ (cut cs (lo1.toNat * es') (hi1.toNat * es')) ?_ ?_ ?_ hZ hes' ?_ ?_ ?_
    ·intro e;rw [e] at hl;simp at hl;omega
    ·intro he'
     simp at he'
     have:=he he'.1
     omega
    ·omega
    ·intro x hx
     refine hx' x ?_
     unfold cut at hx
     exact List.mem_of_mem_drop (List.mem_of_mem_take hx)
    ·rw [hflat];exact hr.cut _ _
    ·intro j v hj
     have:=hc _ v (cut_get _ _ _ _ _ hj)
     rw [Nat.add_assoc];exact this
 ·rename_i es' id stamp off len
  obtain ⟨hi1,eh,hB⟩:=bnd_some h
  obtain ⟨lo1,el,hC⟩:=bnd_some hB
  obtain ⟨⟨h0,hes,h1,h2,h3⟩,hD⟩:=chk_some hC
  clear h hB hC
  subst h0
  simp [hes] at hp
  simp at hD;subst hD
  cases d<;>simp [isSl] at hp
  rename_i elem
  cases hx with
  |sref _ _ _ _ _ l aa cap hk he hs hle ha hh =>
  have hb:=sliceBounds_run (P:=P) (w:=w) hm hlo hhi true len cap eh el h1 h2 h3 hle
  refine ⟨.slice (if cap=lo1.toNat then aa else aa.map (·.add (lo1.toNat * es'))) (hi1.toNat - lo1.toNat) (cap - lo1.toNat),by simp [Instr.sliceAt,underlying,hd,Instr.slice,hb,run_sizeOf w hp.1],?_⟩
  refine .sref _ _ _ _ _ l _ _ hk he hs (by omega) ?_ ?_
  ·intro hpos
   rw [if_neg (by omega)]
   have:=ha (by omega)
   cases aa<;>simp at this ⊢
  ·intro e
   obtain ⟨h4,h5,h6⟩:=hh e
   refine ⟨by omega,by omega,fun hpos=>?_⟩
   obtain ⟨b,hb1,hb2⟩:=h6 (by omega)
   refine ⟨b,hb1,?_⟩
   rw [if_neg (by omega),hb2]
   simp only [Option.map_some,add_addr,he]
   rw [Nat.add_mul]
 ·simp at h
end
end Go.FI
