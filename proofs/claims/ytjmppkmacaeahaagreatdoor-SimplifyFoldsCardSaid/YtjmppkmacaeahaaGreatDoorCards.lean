/-
  DERIVED. GIVEN WITH THE SEED: THE CARDS: each row of YtjmppkmacaeahaaGreatDoorRows.lean that lists a variable, with what it lists TIED to the program's text (the seventh form; the later family's looks); each row that meets fmt, with fmt's text TOLD by the authors' own Lean function (tested against real Go, not proved from fmt's source: count such statements apart). THE CARD IS WHAT COUNTS. Prove the row's statement (the work); the ties are given (YtjmppkmacaeahaaGreatDoorTie.lean); close each card by the builder's one call (the guide's Derived/Test/ToyasCard.lean, 'card_holds'). Laid BY PROGRAM, IN A SANDBOX (cutbox-door.mjs). By AI agents, Wed Nov 11 2026. No macro, syntax, notation, axiom, sorry.
-/
import Derived.Test.YtjmppkmacaeahaaGreatDoorRows
import GoSem.ClaimSeven
namespace Go.Proofs.YtjmppkmacaeahaaGreatDoor
namespace Rows

/-- THE TIED CARD OF 'retargetlaw03.SimplifyTells'. -/
def simplifyTellsCard : Claim7 := { stood := { row := simplifyTellsRow, standIns := [], harness := (true, "0556d3fcc643a0d7cb9259ee2e413da6712dd373974a5da7a18ebff0f14be67e"), looks := true }, kinds := [], alts := [], laidByText := true, laidKinds := [.data], laidTests := true, laidLooks := .later }
def SimplifyTellsCardSaid : Prop := Claim7.holds Tryz.pinned (.plain (OpenSpec.ofChange simplifyTellsSpec)) simplifyTellsCard

/-- THE TIED CARD OF 'retargetlaw03.SimplifyNames'. -/
def simplifyNamesCard : Claim7 := { stood := { row := simplifyNamesRow, standIns := [], harness := (true, "0556d3fcc643a0d7cb9259ee2e413da6712dd373974a5da7a18ebff0f14be67e"), looks := true }, kinds := [], alts := [], laidByText := true, laidKinds := [.data], laidTests := true, laidLooks := .later }
def SimplifyNamesCardSaid : Prop := Claim7.holds Tryz.pinned (.plain (OpenSpec.ofChange simplifyNamesSpec)) simplifyNamesCard

/-- THE TIED CARD OF 'retargetlaw03.SimplifyKeeps'. -/
def simplifyKeepsCard : Claim7 := { stood := { row := simplifyKeepsRow, standIns := [], harness := (true, "0556d3fcc643a0d7cb9259ee2e413da6712dd373974a5da7a18ebff0f14be67e"), looks := true }, kinds := [], alts := [], laidByText := true, laidKinds := [.data], laidTests := true, laidLooks := .later }
def SimplifyKeepsCardSaid : Prop := Claim7.holds Tryz.pinned (.plain (OpenSpec.ofChange simplifyKeepsSpec)) simplifyKeepsCard

/-- THE TIED CARD OF 'retargetlaw03.SimplifySettles'. -/
def simplifySettlesCard : Claim7 := { stood := { row := simplifySettlesRow, standIns := [], harness := (true, "0556d3fcc643a0d7cb9259ee2e413da6712dd373974a5da7a18ebff0f14be67e"), looks := true }, kinds := [], alts := [], laidByText := true, laidKinds := [.data], laidTests := true, laidLooks := .later }
def SimplifySettlesCardSaid : Prop := Claim7.holds Tryz.pinned (.plain (OpenSpec.ofChange simplifySettlesSpec)) simplifySettlesCard

/-- THE TIED CARD OF 'retargetlaw03.SimplifyLaws'. -/
def simplifyLawsCard : Claim7 := { stood := { row := simplifyLawsRow, standIns := [], harness := (true, "0556d3fcc643a0d7cb9259ee2e413da6712dd373974a5da7a18ebff0f14be67e"), looks := true }, kinds := [], alts := [], laidByText := true, laidKinds := [.data], laidTests := true, laidLooks := .later }
def SimplifyLawsCardSaid : Prop := Claim7.holds Tryz.pinned (.plain (OpenSpec.ofChange simplifyLawsSpec)) simplifyLawsCard

/-- THE TIED CARD OF 'retargetlaw03.SimplifySmaller'. -/
def simplifySmallerCard : Claim7 := { stood := { row := simplifySmallerRow, standIns := [], harness := (true, "0556d3fcc643a0d7cb9259ee2e413da6712dd373974a5da7a18ebff0f14be67e"), looks := true }, kinds := [], alts := [], laidByText := true, laidKinds := [.data], laidTests := true, laidLooks := .later }
def SimplifySmallerCardSaid : Prop := Claim7.holds Tryz.pinned (.plain (OpenSpec.ofChange simplifySmallerSpec)) simplifySmallerCard

/-- THE TIED CARD OF 'retargetlaw03.SimplifyFolds'. -/
def simplifyFoldsCard : Claim7 := { stood := { row := simplifyFoldsRow, standIns := [], harness := (true, "0556d3fcc643a0d7cb9259ee2e413da6712dd373974a5da7a18ebff0f14be67e"), looks := true }, kinds := [], alts := [], laidByText := true, laidKinds := [.data], laidTests := true, laidLooks := .later }
def SimplifyFoldsCardSaid : Prop := Claim7.holds Tryz.pinned (.plain (OpenSpec.ofChange simplifyFoldsSpec)) simplifyFoldsCard

/-- THE SECOND FORM's CARD OF 'retargetlaw03.SimplifyTells'. -/
def simplifyTellsUptoCard : Claim7 := { stood := { row := simplifyTellsUptoRow, standIns := [], harness := (true, "0556d3fcc643a0d7cb9259ee2e413da6712dd373974a5da7a18ebff0f14be67e"), looks := true }, kinds := [], alts := [], laidByText := true, laidKinds := [.data], laidTests := true, laidLooks := .later }
def SimplifyTellsUptoCardSaid : Prop := Claim7.holds Tryz.pinned (.plain (OpenSpec.upto simplifyTellsSpec)) simplifyTellsUptoCard

/-- THE SECOND FORM's CARD OF 'retargetlaw03.SimplifyNames'. -/
def simplifyNamesUptoCard : Claim7 := { stood := { row := simplifyNamesUptoRow, standIns := [], harness := (true, "0556d3fcc643a0d7cb9259ee2e413da6712dd373974a5da7a18ebff0f14be67e"), looks := true }, kinds := [], alts := [], laidByText := true, laidKinds := [.data], laidTests := true, laidLooks := .later }
def SimplifyNamesUptoCardSaid : Prop := Claim7.holds Tryz.pinned (.plain (OpenSpec.upto simplifyNamesSpec)) simplifyNamesUptoCard

/-- THE SECOND FORM's CARD OF 'retargetlaw03.SimplifyKeeps'. -/
def simplifyKeepsUptoCard : Claim7 := { stood := { row := simplifyKeepsUptoRow, standIns := [], harness := (true, "0556d3fcc643a0d7cb9259ee2e413da6712dd373974a5da7a18ebff0f14be67e"), looks := true }, kinds := [], alts := [], laidByText := true, laidKinds := [.data], laidTests := true, laidLooks := .later }
def SimplifyKeepsUptoCardSaid : Prop := Claim7.holds Tryz.pinned (.plain (OpenSpec.upto simplifyKeepsSpec)) simplifyKeepsUptoCard

/-- THE SECOND FORM's CARD OF 'retargetlaw03.SimplifySettles'. -/
def simplifySettlesUptoCard : Claim7 := { stood := { row := simplifySettlesUptoRow, standIns := [], harness := (true, "0556d3fcc643a0d7cb9259ee2e413da6712dd373974a5da7a18ebff0f14be67e"), looks := true }, kinds := [], alts := [], laidByText := true, laidKinds := [.data], laidTests := true, laidLooks := .later }
def SimplifySettlesUptoCardSaid : Prop := Claim7.holds Tryz.pinned (.plain (OpenSpec.upto simplifySettlesSpec)) simplifySettlesUptoCard

/-- THE SECOND FORM's CARD OF 'retargetlaw03.SimplifyLaws'. -/
def simplifyLawsUptoCard : Claim7 := { stood := { row := simplifyLawsUptoRow, standIns := [], harness := (true, "0556d3fcc643a0d7cb9259ee2e413da6712dd373974a5da7a18ebff0f14be67e"), looks := true }, kinds := [], alts := [], laidByText := true, laidKinds := [.data], laidTests := true, laidLooks := .later }
def SimplifyLawsUptoCardSaid : Prop := Claim7.holds Tryz.pinned (.plain (OpenSpec.upto simplifyLawsSpec)) simplifyLawsUptoCard

/-- THE SECOND FORM's CARD OF 'retargetlaw03.SimplifySmaller'. -/
def simplifySmallerUptoCard : Claim7 := { stood := { row := simplifySmallerUptoRow, standIns := [], harness := (true, "0556d3fcc643a0d7cb9259ee2e413da6712dd373974a5da7a18ebff0f14be67e"), looks := true }, kinds := [], alts := [], laidByText := true, laidKinds := [.data], laidTests := true, laidLooks := .later }
def SimplifySmallerUptoCardSaid : Prop := Claim7.holds Tryz.pinned (.plain (OpenSpec.upto simplifySmallerSpec)) simplifySmallerUptoCard

/-- THE SECOND FORM's CARD OF 'retargetlaw03.SimplifyFolds'. -/
def simplifyFoldsUptoCard : Claim7 := { stood := { row := simplifyFoldsUptoRow, standIns := [], harness := (true, "0556d3fcc643a0d7cb9259ee2e413da6712dd373974a5da7a18ebff0f14be67e"), looks := true }, kinds := [], alts := [], laidByText := true, laidKinds := [.data], laidTests := true, laidLooks := .later }
def SimplifyFoldsUptoCardSaid : Prop := Claim7.holds Tryz.pinned (.plain (OpenSpec.upto simplifyFoldsSpec)) simplifyFoldsUptoCard
end Rows
end Go.Proofs.YtjmppkmacaeahaaGreatDoor
