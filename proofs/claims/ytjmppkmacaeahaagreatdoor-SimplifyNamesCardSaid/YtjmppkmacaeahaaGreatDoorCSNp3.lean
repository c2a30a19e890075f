/- Pieces of the law's run, in the kernel. -/
import Derived.Test.YtjmppkmacaeahaaGreatDoorCSNs
import Derived.KernelRfl
set_option linter.all false
set_option linter.unusedSimpArgs false
set_option linter.unusedVariables false
set_option linter.unusedSectionVars false
namespace Go.Proofs.YtjmppkmacaeahaaGreatDoor.Fi
open Go.FI
set_option maxRecDepth 1000000 in
theorem cut5 : runJ (FI.call T 100000) 56 st4.1 st4.2.1 st4.2.2.1 st4.2.2.2 = some (.inl st5) := by kernel_rfl
set_option maxRecDepth 1000000 in
theorem cut6 : runJ (FI.call T 100000) 70 st5.1 st5.2.1 st5.2.2.1 st5.2.2.2 = some (.inl st6) := by kernel_rfl
end Go.Proofs.YtjmppkmacaeahaaGreatDoor.Fi
