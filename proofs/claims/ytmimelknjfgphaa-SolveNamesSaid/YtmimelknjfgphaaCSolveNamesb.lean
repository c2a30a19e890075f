/- The law's own run, in the kernel. -/
import Derived.Test.YtmimelknjfgphaaCSolveNamesa
import Derived.KernelRfl
set_option linter.all false
set_option linter.unusedSimpArgs false
set_option linter.unusedVariables false
set_option linter.unusedSectionVars false
namespace Go.Proofs.Ytmimelknjfgphaa.Fi
open Go.FI
def isTrue : Option (FV × Heap × Nat) → Bool
  | some (.bool true, _, _) => true
  | _ => false
theorem isTrue_some {x : Option (FV × Heap × Nat)} (h : isTrue x = true) : ∃ h' nx, x = some (.bool true, h', nx) := by
  match x, h with
  | some (.bool true, h', nx), _ => exact ⟨h', nx, rfl⟩
set_option maxRecDepth 1000000 in
theorem law_true : isTrue (FI.call T 3000 8 [] [] 0) = true := by kernel_rfl
theorem law_iso : IsoCall Try.prog 8 [] (.bool true) := by
  obtain ⟨h', nx, h⟩ := isTrue_some law_true
  exact isoCall_of_call tab (show tget T 8 = some (.fn c8) from rfl) rfl h rfl
end Go.Proofs.Ytmimelknjfgphaa.Fi
