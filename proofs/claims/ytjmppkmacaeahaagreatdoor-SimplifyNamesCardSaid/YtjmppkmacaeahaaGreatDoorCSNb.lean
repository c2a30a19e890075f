/- The law's own run. -/
import Derived.Test.YtjmppkmacaeahaaGreatDoorCSNp1
import Derived.Test.YtjmppkmacaeahaaGreatDoorCSNp2
import Derived.Test.YtjmppkmacaeahaaGreatDoorCSNp3
import Derived.Test.YtjmppkmacaeahaaGreatDoorCSNp4
import Derived.Test.YtjmppkmacaeahaaGreatDoorCSNp5
import Derived.KernelRfl
set_option linter.all false
set_option linter.unusedSimpArgs false
set_option linter.unusedVariables false
set_option linter.unusedSectionVars false
namespace Go.Proofs.YtjmppkmacaeahaaGreatDoor.Fi
open Go.FI
set_option maxRecDepth 1000000 in
theorem last : (match run (FI.call T 100000) 25 st10.1 st10.2.1 st10.2.2.1 st10.2.2.2 with | some x => (match bnd (finish c4 x) fun v => frz x.2.2.1 deep v with | some (.bool true) => true | _ => false) | none => false) = true := by kernel_rfl
theorem law_iso : IsoCall Tryz.prog 4 [] (.bool true) := by
  have h0 := last
  split at h0
  case h_2 => cases h0
  rename_i x hx
  split at h0
  case h_2 => cases h0
  rename_i hv
  obtain ⟨v, v1, v2⟩ := bnd_some hv
  have hx := runJ_inl hx _ _ _ _ _ cut10
  have hx := runJ_inl hx _ _ _ _ _ cut9
  have hx := runJ_inl hx _ _ _ _ _ cut8
  have hx := runJ_inl hx _ _ _ _ _ cut7
  have hx := runJ_inl hx _ _ _ _ _ cut6
  have hx := runJ_inl hx _ _ _ _ _ cut5
  have hx := runJ_inl hx _ _ _ _ _ cut4
  have hx := runJ_inl hx _ _ _ _ _ cut3
  have hx := runJ_inl hx _ _ _ _ _ cut2
  have hx := runJ_inl hx _ _ _ _ _ cut1
  exact isoCall_of_call tab (show tget T 4 = some (.fn c4) from rfl) rfl (call_of_run (show tget T 4 = some (.fn c4) from rfl) (by decide) rfl rfl (by decide) hx v1 v2) rfl
end Go.Proofs.YtjmppkmacaeahaaGreatDoor.Fi
