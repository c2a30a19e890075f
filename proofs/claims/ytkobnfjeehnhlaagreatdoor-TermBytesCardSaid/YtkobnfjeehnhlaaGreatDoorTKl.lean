/- The chapter's examples, run in the kernel. -/
import Derived.Test.YtkobnfjeehnhlaaGreatDoorTK
import Derived.KernelRfl
set_option linter.all false
set_option linter.unusedSimpArgs false
set_option linter.unusedVariables false
set_option linter.unusedSectionVars false
namespace Go.Proofs.YtkobnfjeehnhlaaGreatDoor.Fi
open Go.FI
def isTrue : Option (FV × Heap × Nat) → Bool
  | some (.bool true, _, _) => true
  | _ => false
theorem isTrue_some {x : Option (FV × Heap × Nat)} (h : isTrue x = true) : ∃ h' nx, x = some (.bool true, h', nx) := by
  match x, h with
  | some (.bool true, h', nx), _ => exact ⟨h', nx, rfl⟩
set_option maxRecDepth 1000000 in
theorem law_true : isTrue (FI.call T 10000 19 [] [] 0) = true := by kernel_rfl
end Go.Proofs.YtkobnfjeehnhlaaGreatDoor.Fi

