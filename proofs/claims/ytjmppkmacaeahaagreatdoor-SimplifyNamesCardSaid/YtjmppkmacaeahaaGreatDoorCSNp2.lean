/- Pieces of the law's run, in the kernel. -/
import Derived.Test.YtjmppkmacaeahaaGreatDoorCSNs
import Derived.KernelRfl
set_option linter.all false
set_option linter.unusedSimpArgs false
set_option linter.unusedVariables false
set_option linter.unusedSectionVars false
namespace Go.Proofs.YtjmppkmacaeahaaGreatDoor.Fi
open Go.FI
set_option maxRecDepth 1000000 in
theorem cut3 : runJ (FI.call T 100000) 56 st2.1 st2.2.1 st2.2.2.1 st2.2.2.2 = some (.inl st3) := by kernel_rfl
set_option maxRecDepth 1000000 in
theorem cut4 : runJ (FI.call T 100000) 70 st3.1 st3.2.1 st3.2.2.1 st3.2.2.2 = some (.inl st4) := by kernel_rfl
end Go.Proofs.YtjmppkmacaeahaaGreatDoor.Fi
