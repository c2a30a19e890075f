/- Pieces of the law's run, in the kernel. -/
import Derived.Test.YtjmppkmacaeahaaGreatDoorCSNs
import Derived.KernelRfl
set_option linter.all false
set_option linter.unusedSimpArgs false
set_option linter.unusedVariables false
set_option linter.unusedSectionVars false
namespace Go.Proofs.YtjmppkmacaeahaaGreatDoor.Fi
open Go.FI
set_option maxRecDepth 1000000 in
theorem cut1 : runJ (FI.call T 100000) 34 [.code c4.body] [] [] 0 = some (.inl st1) := by kernel_rfl
set_option maxRecDepth 1000000 in
theorem cut2 : runJ (FI.call T 100000) 70 st1.1 st1.2.1 st1.2.2.1 st1.2.2.2 = some (.inl st2) := by kernel_rfl
end Go.Proofs.YtjmppkmacaeahaaGreatDoor.Fi
