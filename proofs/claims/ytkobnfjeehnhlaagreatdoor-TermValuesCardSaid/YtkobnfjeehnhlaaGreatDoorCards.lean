/-
  DERIVED. GIVEN WITH THE SEED: THE CARDS: each row of YtkobnfjeehnhlaaGreatDoorRows.lean that lists a variable, with what it lists TIED to the program's text (the seventh form; the later family's looks); each row that meets fmt, with fmt's text TOLD by the authors' own Lean function (tested against real Go, not proved from fmt's source: count such statements apart). THE CARD IS WHAT COUNTS. Prove the row's statement (the work); the ties are given (YtkobnfjeehnhlaaGreatDoorTie.lean); close each card by the builder's one call (the guide's Derived/Test/ToyasCard.lean, 'card_holds'). Laid BY PROGRAM, IN A SANDBOX (cutbox-door.mjs). By AI agents, Wed Nov 11 2026. No macro, syntax, notation, axiom, sorry.
-/
import Derived.Test.YtkobnfjeehnhlaaGreatDoorRows
import GoSem.ClaimSeven
namespace Go.Proofs.YtkobnfjeehnhlaaGreatDoor
namespace Rows

/-- THE TIED CARD OF 'retargetlaw02.TermValues'. -/
def termValuesCard : Claim7 := { stood := { row := termValuesRow, standIns := [], harness := (true, "3261d896b76c39b9e8fda03d679ac18150623f4ef50e0ce9c5e2bd5958d0b5d2"), looks := true }, kinds := [], alts := [], laidByText := true, laidKinds := [.data], laidTests := true, laidLooks := .later }
def TermValuesCardSaid : Prop := Claim7.holds Tryz.pinned (.plain (OpenSpec.ofChange termValuesSpec)) termValuesCard

/-- THE TIED CARD OF 'retargetlaw02.TermCompose'. -/
def termComposeCard : Claim7 := { stood := { row := termComposeRow, standIns := [], harness := (true, "3261d896b76c39b9e8fda03d679ac18150623f4ef50e0ce9c5e2bd5958d0b5d2"), looks := true }, kinds := [], alts := [], laidByText := true, laidKinds := [.data], laidTests := true, laidLooks := .later }
def TermComposeCardSaid : Prop := Claim7.holds Tryz.pinned (.plain (OpenSpec.ofChange termComposeSpec)) termComposeCard

/-- THE TIED CARD OF 'retargetlaw02.TermBytes'. -/
def termBytesCard : Claim7 := { stood := { row := termBytesRow, standIns := [], harness := (true, "3261d896b76c39b9e8fda03d679ac18150623f4ef50e0ce9c5e2bd5958d0b5d2"), looks := true }, kinds := [], alts := [], laidByText := true, laidKinds := [.data], laidTests := true, laidLooks := .later }
def TermBytesCardSaid : Prop := Claim7.holds Tryz.pinned (.plain (OpenSpec.ofChange termBytesSpec)) termBytesCard

/-- THE TIED CARD OF 'retargetlaw02.TermReplace'. -/
def termReplaceCard : Claim7 := { stood := { row := termReplaceRow, standIns := [], harness := (true, "3261d896b76c39b9e8fda03d679ac18150623f4ef50e0ce9c5e2bd5958d0b5d2"), looks := true }, kinds := [], alts := [], laidByText := true, laidKinds := [.data], laidTests := true, laidLooks := .later }
def TermReplaceCardSaid : Prop := Claim7.holds Tryz.pinned (.plain (OpenSpec.ofChange termReplaceSpec)) termReplaceCard

/-- THE TIED CARD OF 'retargetlaw02.TermInverse'. -/
def termInverseCard : Claim7 := { stood := { row := termInverseRow, standIns := [], harness := (true, "3261d896b76c39b9e8fda03d679ac18150623f4ef50e0ce9c5e2bd5958d0b5d2"), looks := true }, kinds := [], alts := [], laidByText := true, laidKinds := [.data], laidTests := true, laidLooks := .later }
def TermInverseCardSaid : Prop := Claim7.holds Tryz.pinned (.plain (OpenSpec.ofChange termInverseSpec)) termInverseCard

/-- THE TIED CARD OF 'retargetlaw02.TermNames'. -/
def termNamesCard : Claim7 := { stood := { row := termNamesRow, standIns := [], harness := (true, "3261d896b76c39b9e8fda03d679ac18150623f4ef50e0ce9c5e2bd5958d0b5d2"), looks := true }, kinds := [], alts := [], laidByText := true, laidKinds := [.data], laidTests := true, laidLooks := .later }
def TermNamesCardSaid : Prop := Claim7.holds Tryz.pinned (.plain (OpenSpec.ofChange termNamesSpec)) termNamesCard

/-- THE SECOND FORM's CARD OF 'retargetlaw02.TermValues'. -/
def termValuesUptoCard : Claim7 := { stood := { row := termValuesUptoRow, standIns := [], harness := (true, "3261d896b76c39b9e8fda03d679ac18150623f4ef50e0ce9c5e2bd5958d0b5d2"), looks := true }, kinds := [], alts := [], laidByText := true, laidKinds := [.data], laidTests := true, laidLooks := .later }
def TermValuesUptoCardSaid : Prop := Claim7.holds Tryz.pinned (.plain (OpenSpec.upto termValuesSpec)) termValuesUptoCard

/-- THE SECOND FORM's CARD OF 'retargetlaw02.TermCompose'. -/
def termComposeUptoCard : Claim7 := { stood := { row := termComposeUptoRow, standIns := [], harness := (true, "3261d896b76c39b9e8fda03d679ac18150623f4ef50e0ce9c5e2bd5958d0b5d2"), looks := true }, kinds := [], alts := [], laidByText := true, laidKinds := [.data], laidTests := true, laidLooks := .later }
def TermComposeUptoCardSaid : Prop := Claim7.holds Tryz.pinned (.plain (OpenSpec.upto termComposeSpec)) termComposeUptoCard

/-- THE SECOND FORM's CARD OF 'retargetlaw02.TermBytes'. -/
def termBytesUptoCard : Claim7 := { stood := { row := termBytesUptoRow, standIns := [], harness := (true, "3261d896b76c39b9e8fda03d679ac18150623f4ef50e0ce9c5e2bd5958d0b5d2"), looks := true }, kinds := [], alts := [], laidByText := true, laidKinds := [.data], laidTests := true, laidLooks := .later }
def TermBytesUptoCardSaid : Prop := Claim7.holds Tryz.pinned (.plain (OpenSpec.upto termBytesSpec)) termBytesUptoCard

/-- THE SECOND FORM's CARD OF 'retargetlaw02.TermReplace'. -/
def termReplaceUptoCard : Claim7 := { stood := { row := termReplaceUptoRow, standIns := [], harness := (true, "3261d896b76c39b9e8fda03d679ac18150623f4ef50e0ce9c5e2bd5958d0b5d2"), looks := true }, kinds := [], alts := [], laidByText := true, laidKinds := [.data], laidTests := true, laidLooks := .later }
def TermReplaceUptoCardSaid : Prop := Claim7.holds Tryz.pinned (.plain (OpenSpec.upto termReplaceSpec)) termReplaceUptoCard

/-- THE SECOND FORM's CARD OF 'retargetlaw02.TermInverse'. -/
def termInverseUptoCard : Claim7 := { stood := { row := termInverseUptoRow, standIns := [], harness := (true, "3261d896b76c39b9e8fda03d679ac18150623f4ef50e0ce9c5e2bd5958d0b5d2"), looks := true }, kinds := [], alts := [], laidByText := true, laidKinds := [.data], laidTests := true, laidLooks := .later }
def TermInverseUptoCardSaid : Prop := Claim7.holds Tryz.pinned (.plain (OpenSpec.upto termInverseSpec)) termInverseUptoCard

/-- THE SECOND FORM's CARD OF 'retargetlaw02.TermNames'. -/
def termNamesUptoCard : Claim7 := { stood := { row := termNamesUptoRow, standIns := [], harness := (true, "3261d896b76c39b9e8fda03d679ac18150623f4ef50e0ce9c5e2bd5958d0b5d2"), looks := true }, kinds := [], alts := [], laidByText := true, laidKinds := [.data], laidTests := true, laidLooks := .later }
def TermNamesUptoCardSaid : Prop := Claim7.holds Tryz.pinned (.plain (OpenSpec.upto termNamesSpec)) termNamesUptoCard
end Rows
end Go.Proofs.YtkobnfjeehnhlaaGreatDoor
