/- Parts of the proof, one behind the other. -/
import Derived.Test.YtlcbcacnbjekpaaDoorBS5
import Derived.Test.YtlcbcacnbjekpaaDoorBS4
import Derived.KernelRfl
set_option linter.all false
namespace Go.Proofs.YtlcbcacnbjekpaaDoor.Fi
open Go.FI
def isTrue:Option (FV × Heap × Nat)→Bool
 |some (.bool true,_,_)=>true
 |_=>false
theorem isTrue_some {x:Option (FV × Heap × Nat)} (h:isTrue x=true):∃ h' nx,x=some (.bool true,h',nx):=by
 match x,h with
 |some (.bool true,h',nx),_=>exact ⟨h',nx,rfl⟩
set_option maxRecDepth 1000000 in
theorem law_true:isTrue (FI.call T 10000 6 [] [] 0)=true:=by kernel_rfl
theorem alive_iso (h:Heap) (nx:Nat):lim T 6 [] h nx=some (.bool true,h,nx):=by
 obtain ⟨h',nx',hl⟩:=isTrue_some law_true
 have hl:=le_lim T _ _ _ _ _ _ hl
 exact lim_iso_any tg6 rfl hl (by decide) h nx
end Go.Proofs.YtlcbcacnbjekpaaDoor.Fi
