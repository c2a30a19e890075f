/- Calls that are known beforehand. -/
import Derived.Test.YtkobnfjeehnhlaaGreatDoorCTNw0
import Derived.KernelRfl
set_option linter.all false
set_option linter.unusedSimpArgs false
set_option linter.unusedVariables false
set_option linter.unusedSectionVars false
namespace Go.Proofs.YtkobnfjeehnhlaaGreatDoor.Fi
open Go.FI
set_option maxRecDepth 1000000

end Go.Proofs.YtkobnfjeehnhlaaGreatDoor.Fi
