/- The law's own run. -/
import Derived.Test.YtkobnfjeehnhlaaGreatDoorCTNp1
import Derived.Test.YtkobnfjeehnhlaaGreatDoorCTNp2
import Derived.Test.YtkobnfjeehnhlaaGreatDoorCTNp3
import Derived.Test.YtkobnfjeehnhlaaGreatDoorCTNp4
import Derived.Test.YtkobnfjeehnhlaaGreatDoorCTNwg
import Derived.KernelRfl
set_option linter.all false
set_option linter.unusedSimpArgs false
set_option linter.unusedVariables false
set_option linter.unusedSectionVars false
namespace Go.Proofs.YtkobnfjeehnhlaaGreatDoor.Fi
open Go.FI
set_option maxRecDepth 1000000 in
theorem last : (match run (callW T W 100000) 11 st15.1 st15.2.1 st15.2.2.1 st15.2.2.2 with | some x => (match bnd (finish c8 x) fun v => frz x.2.2.1 deep v with | some (.bool true) => true | _ => false) | none => false) = true := by kernel_rfl
theorem law_iso : IsoCall Tryz.prog 8 [] (.bool true) := by
  have h0 := last
  split at h0
  case h_2 => cases h0
  rename_i x hx
  split at h0
  case h_2 => cases h0
  rename_i hv
  obtain ⟨v, v1, v2⟩ := bnd_some hv
  have hx := runJ_inl hx _ _ _ _ _ cut15
  have hx := runJ_inl hx _ _ _ _ _ cut14
  have hx := runJ_inl hx _ _ _ _ _ cut13
  have hx := runJ_inl hx _ _ _ _ _ cut12
  have hx := runJ_inl hx _ _ _ _ _ cut11
  have hx := runJ_inl hx _ _ _ _ _ cut10
  have hx := runJ_inl hx _ _ _ _ _ cut9
  have hx := runJ_inl hx _ _ _ _ _ cut8
  have hx := runJ_inl hx _ _ _ _ _ cut7
  have hx := runJ_inl hx _ _ _ _ _ cut6
  have hx := runJ_inl hx _ _ _ _ _ cut5
  have hx := runJ_inl hx _ _ _ _ _ cut4
  have hx := runJ_inl hx _ _ _ _ _ cut3
  have hx := runJ_inl hx _ _ _ _ _ cut2
  have hx := runJ_inl hx _ _ _ _ _ cut1
  obtain ⟨M, hM⟩ := call_of_runW good (show tget T 8 = some (.fn c8) from rfl) (by decide) rfl rfl hx v1 v2
  exact isoCall_of_call tab (show tget T 8 = some (.fn c8) from rfl) rfl hM rfl
end Go.Proofs.YtkobnfjeehnhlaaGreatDoor.Fi
