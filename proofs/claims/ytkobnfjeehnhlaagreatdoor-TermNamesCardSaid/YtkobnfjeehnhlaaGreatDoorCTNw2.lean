/- Calls that are known beforehand. -/
import Derived.Test.YtkobnfjeehnhlaaGreatDoorCTNw0
import Derived.KernelRfl
set_option linter.all false
set_option linter.unusedSimpArgs false
set_option linter.unusedVariables false
set_option linter.unusedSectionVars false
namespace Go.Proofs.YtkobnfjeehnhlaaGreatDoor.Fi
open Go.FI
set_option maxRecDepth 1000000
theorem kn4 : callW T W3 100000 117 [w4, (.yl 1003100 12 [(.ptr 1 1 0 0)])] ha4 88 = some ((.bool true), hb4, 105) := by kernel_rfl
theorem kn5 : callW T W4 100000 117 [w6, w8] ha5 76 = some ((.bool true), hb5, 93) := by kernel_rfl
theorem kn6 : callW T W5 100000 117 [w6, w8] ha6 76 = some ((.bool true), hb6, 93) := by kernel_rfl
theorem kn7 : callW T W6 100000 117 [w36, (.yl 1003100 12 [(.ptr 1 1 0 0)])] ha7 784 = some ((.bool true), hb7, 801) := by kernel_rfl
theorem kn8 : callW T W7 100000 117 [w64, (.yl 1003100 12 [(.ptr 1 1 0 0)])] ha8 112 = some ((.bool true), hb8, 129) := by kernel_rfl
theorem kn9 : callW T W8 100000 31 [w68] [] 0 = some ((.int .i64 0), [], 0) := by kernel_rfl
theorem kn10 : callW T W9 100000 117 [w74, (.yl 1003800 6 [(.ptr 2 1 0 0)])] ha10 54 = some ((.bool true), hb10, 69) := by kernel_rfl
end Go.Proofs.YtkobnfjeehnhlaaGreatDoor.Fi
