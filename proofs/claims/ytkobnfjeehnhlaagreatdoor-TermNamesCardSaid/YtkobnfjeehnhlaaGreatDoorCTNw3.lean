/- Calls that are known beforehand. -/
import Derived.Test.YtkobnfjeehnhlaaGreatDoorCTNw0
import Derived.KernelRfl
set_option linter.all false
set_option linter.unusedSimpArgs false
set_option linter.unusedVariables false
set_option linter.unusedSectionVars false
namespace Go.Proofs.YtkobnfjeehnhlaaGreatDoor.Fi
open Go.FI
set_option maxRecDepth 1000000
theorem kn11 : callW T W10 100000 117 [w74, (.yl 1003800 6 [(.ptr 2 1 0 0)])] ha11 54 = some ((.bool true), hb11, 69) := by kernel_rfl
theorem kn12 : callW T W11 100000 117 [w74, (.yl 1003800 6 [(.ptr 2 1 0 0)])] ha12 54 = some ((.bool true), hb12, 69) := by kernel_rfl
theorem kn13 : callW T W12 100000 117 [w74, (.yl 1003800 6 [(.ptr 2 1 0 0)])] ha13 54 = some ((.bool true), hb13, 69) := by kernel_rfl
end Go.Proofs.YtkobnfjeehnhlaaGreatDoor.Fi
