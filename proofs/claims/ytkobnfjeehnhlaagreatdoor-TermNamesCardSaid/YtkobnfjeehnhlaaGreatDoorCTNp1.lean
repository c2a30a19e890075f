/- Pieces of the law's run, in the kernel. -/
import Derived.Test.YtkobnfjeehnhlaaGreatDoorCTNs
import Derived.KernelRfl
set_option linter.all false
set_option linter.unusedSimpArgs false
set_option linter.unusedVariables false
set_option linter.unusedSectionVars false
namespace Go.Proofs.YtkobnfjeehnhlaaGreatDoor.Fi
open Go.FI
set_option maxRecDepth 1000000 in
theorem cut1 : runJ (callW T W 100000) 2 [.code c8.body] [] [] 0 = some (.inl st1) := by kernel_rfl
set_option maxRecDepth 1000000 in
theorem cut2 : runJ (callW T W 100000) 60 st1.1 st1.2.1 st1.2.2.1 st1.2.2.2 = some (.inl st2) := by kernel_rfl
set_option maxRecDepth 1000000 in
theorem cut3 : runJ (callW T W 100000) 36 st2.1 st2.2.1 st2.2.2.1 st2.2.2.2 = some (.inl st3) := by kernel_rfl
set_option maxRecDepth 1000000 in
theorem cut4 : runJ (callW T W 100000) 36 st3.1 st3.2.1 st3.2.2.1 st3.2.2.2 = some (.inl st4) := by kernel_rfl
set_option maxRecDepth 1000000 in
theorem cut5 : runJ (callW T W 100000) 36 st4.1 st4.2.1 st4.2.2.1 st4.2.2.2 = some (.inl st5) := by kernel_rfl
end Go.Proofs.YtkobnfjeehnhlaaGreatDoor.Fi
