/- Pieces of the law's run, in the kernel. -/
import Derived.Test.YtjmppkmacaeahaaGreatDoorCSNs
import Derived.KernelRfl
set_option linter.all false
set_option linter.unusedSimpArgs false
set_option linter.unusedVariables false
set_option linter.unusedSectionVars false
namespace Go.Proofs.YtjmppkmacaeahaaGreatDoor.Fi
open Go.FI
set_option maxRecDepth 1000000 in
theorem cut7 : runJ (FI.call T 100000) 56 st6.1 st6.2.1 st6.2.2.1 st6.2.2.2 = some (.inl st7) := by kernel_rfl
set_option maxRecDepth 1000000 in
theorem cut8 : runJ (FI.call T 100000) 56 st7.1 st7.2.1 st7.2.2.1 st7.2.2.2 = some (.inl st8) := by kernel_rfl
end Go.Proofs.YtjmppkmacaeahaaGreatDoor.Fi
