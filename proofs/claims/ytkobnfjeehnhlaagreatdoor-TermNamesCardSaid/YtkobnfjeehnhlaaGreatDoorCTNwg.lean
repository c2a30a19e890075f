/- All known calls are right. -/
import Derived.Test.YtkobnfjeehnhlaaGreatDoorCTNw1
import Derived.Test.YtkobnfjeehnhlaaGreatDoorCTNw2
import Derived.Test.YtkobnfjeehnhlaaGreatDoorCTNw3
import Derived.Test.YtkobnfjeehnhlaaGreatDoorCTNw4
import Derived.KernelRfl
set_option linter.all false
set_option linter.unusedSimpArgs false
set_option linter.unusedVariables false
set_option linter.unusedSectionVars false
namespace Go.Proofs.YtkobnfjeehnhlaaGreatDoor.Fi
open Go.FI
set_option maxRecDepth 1000000
theorem good0 : FI.Good T W0 := good_nil
theorem good1 : FI.Good T W1 := good_at good0 kn1
theorem good2 : FI.Good T W2 := good_at good1 kn2
theorem good3 : FI.Good T W3 := good_any good2 (show tget T 37 = some (.fn c37) from rfl) (by decide) (by kernel_rfl) (by decide) kn3
theorem good4 : FI.Good T W4 := good_at good3 kn4
theorem good5 : FI.Good T W5 := good_at good4 kn5
theorem good6 : FI.Good T W6 := good_at good5 kn6
theorem good7 : FI.Good T W7 := good_at good6 kn7
theorem good8 : FI.Good T W8 := good_at good7 kn8
theorem good9 : FI.Good T W9 := good_any good8 (show tget T 31 = some (.fn c31) from rfl) (by decide) (by kernel_rfl) (by decide) kn9
theorem good10 : FI.Good T W10 := good_at good9 kn10
theorem good11 : FI.Good T W11 := good_at good10 kn11
theorem good12 : FI.Good T W12 := good_at good11 kn12
theorem good13 : FI.Good T W13 := good_at good12 kn13
theorem good : FI.Good T W := good13
end Go.Proofs.YtkobnfjeehnhlaaGreatDoor.Fi
