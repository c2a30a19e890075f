/- Calls that are known beforehand. -/
import Derived.Test.YtkobnfjeehnhlaaGreatDoorCTNw0
import Derived.KernelRfl
set_option linter.all false
set_option linter.unusedSimpArgs false
set_option linter.unusedVariables false
set_option linter.unusedSectionVars false
namespace Go.Proofs.YtkobnfjeehnhlaaGreatDoor.Fi
open Go.FI
set_option maxRecDepth 1000000
theorem kn1 : callW T W0 100000 117 [w6, (.yl 1003800 6 [(.ptr 2 1 0 0)])] ha1 32 = some ((.bool true), hb1, 47) := by kernel_rfl
theorem kn2 : callW T W1 100000 117 [w6, (.yl 1003800 6 [(.ptr 2 1 0 0)])] ha2 32 = some ((.bool true), hb2, 47) := by kernel_rfl
theorem kn3 : callW T W2 100000 37 [w7] [] 0 = some ((.int .i64 8), [], 0) := by kernel_rfl
end Go.Proofs.YtkobnfjeehnhlaaGreatDoor.Fi
