/- Pieces of the law's run, in the kernel. -/
import Derived.Test.YtkobnfjeehnhlaaGreatDoorCTNs
import Derived.KernelRfl
set_option linter.all false
set_option linter.unusedSimpArgs false
set_option linter.unusedVariables false
set_option linter.unusedSectionVars false
namespace Go.Proofs.YtkobnfjeehnhlaaGreatDoor.Fi
open Go.FI
set_option maxRecDepth 1000000 in
theorem cut11 : runJ (callW T W 100000) 94 st10.1 st10.2.1 st10.2.2.1 st10.2.2.2 = some (.inl st11) := by kernel_rfl
set_option maxRecDepth 1000000 in
theorem cut12 : runJ (callW T W 100000) 108 st11.1 st11.2.1 st11.2.2.1 st11.2.2.2 = some (.inl st12) := by kernel_rfl
set_option maxRecDepth 1000000 in
theorem cut13 : runJ (callW T W 100000) 90 st12.1 st12.2.1 st12.2.2.1 st12.2.2.2 = some (.inl st13) := by kernel_rfl
set_option maxRecDepth 1000000 in
theorem cut14 : runJ (callW T W 100000) 126 st13.1 st13.2.1 st13.2.2.1 st13.2.2.2 = some (.inl st14) := by kernel_rfl
set_option maxRecDepth 1000000 in
theorem cut15 : runJ (callW T W 100000) 28 st14.1 st14.2.1 st14.2.2.1 st14.2.2.2 = some (.inl st15) := by kernel_rfl
end Go.Proofs.YtkobnfjeehnhlaaGreatDoor.Fi
