/- Pieces of the law's run, in the kernel. -/
import Derived.Test.YtjmppkmacaeahaaGreatDoorCSNs
import Derived.KernelRfl
set_option linter.all false
set_option linter.unusedSimpArgs false
set_option linter.unusedVariables false
set_option linter.unusedSectionVars false
namespace Go.Proofs.YtjmppkmacaeahaaGreatDoor.Fi
open Go.FI
set_option maxRecDepth 1000000 in
theorem cut9 : runJ (FI.call T 100000) 56 st8.1 st8.2.1 st8.2.2.1 st8.2.2.2 = some (.inl st9) := by kernel_rfl
set_option maxRecDepth 1000000 in
theorem cut10 : runJ (FI.call T 100000) 56 st9.1 st9.2.1 st9.2.2.1 st9.2.2.2 = some (.inl st10) := by kernel_rfl
end Go.Proofs.YtjmppkmacaeahaaGreatDoor.Fi
