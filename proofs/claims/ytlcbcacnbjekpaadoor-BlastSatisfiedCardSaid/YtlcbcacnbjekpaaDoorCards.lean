/-
  DERIVED. GIVEN WITH THE SEED: THE CARDS: each row of YtlcbcacnbjekpaaDoorRows.lean that lists a variable, with what it lists TIED to the program's text (the seventh form; the later family's looks); each row that meets fmt, with fmt's text TOLD by the authors' own Lean function (tested against real Go, not proved from fmt's source: count such statements apart). THE CARD IS WHAT COUNTS. Prove the row's statement (the work); the ties are given (YtlcbcacnbjekpaaDoorTie.lean); close each card by the builder's one call (the guide's Derived/Test/ToyasCard.lean, 'card_holds'). Laid BY PROGRAM, IN A SANDBOX (cutbox-door.mjs). By AI agents, Wed Nov 11 2026. No macro, syntax, notation, axiom, sorry.
-/
import Derived.Test.YtlcbcacnbjekpaaDoorRows
import GoSem.ClaimSeven
namespace Go.Proofs.YtlcbcacnbjekpaaDoor
namespace Rows

/-- THE TIED CARD OF 'retargetlaw04.BlastShape'. -/
def blastShapeCard : Claim7 := { stood := { row := blastShapeRow, standIns := [], harness := (true, "d8855c8726cdf85ab5c679fd0b71eab4b2c08cd1316c60171df7c6d4ceb72661"), looks := false }, kinds := [], alts := [], laidByText := true, laidKinds := [.data], laidTests := true, laidLooks := .later }
def BlastShapeCardSaid : Prop := Claim7.holds Tryd.pinned (.plain (OpenSpec.ofChange blastShapeSpec)) blastShapeCard

/-- THE TIED CARD OF 'retargetlaw04.BlastNames'. -/
def blastNamesCard : Claim7 := { stood := { row := blastNamesRow, standIns := [], harness := (true, "d8855c8726cdf85ab5c679fd0b71eab4b2c08cd1316c60171df7c6d4ceb72661"), looks := false }, kinds := [], alts := [], laidByText := true, laidKinds := [.data], laidTests := true, laidLooks := .later }
def BlastNamesCardSaid : Prop := Claim7.holds Tryd.pinned (.plain (OpenSpec.ofChange blastNamesSpec)) blastNamesCard

/-- THE TIED CARD OF 'retargetlaw04.BlastSatisfied'. -/
def blastSatisfiedCard : Claim7 := { stood := { row := blastSatisfiedRow, standIns := [], harness := (true, "d8855c8726cdf85ab5c679fd0b71eab4b2c08cd1316c60171df7c6d4ceb72661"), looks := false }, kinds := [], alts := [], laidByText := true, laidKinds := [.data], laidTests := true, laidLooks := .later }
def BlastSatisfiedCardSaid : Prop := Claim7.holds Tryd.pinned (.plain (OpenSpec.ofChange blastSatisfiedSpec)) blastSatisfiedCard

/-- THE SECOND FORM's CARD OF 'retargetlaw04.BlastShape'. -/
def blastShapeUptoCard : Claim7 := { stood := { row := blastShapeUptoRow, standIns := [], harness := (true, "d8855c8726cdf85ab5c679fd0b71eab4b2c08cd1316c60171df7c6d4ceb72661"), looks := false }, kinds := [], alts := [], laidByText := true, laidKinds := [.data], laidTests := true, laidLooks := .later }
def BlastShapeUptoCardSaid : Prop := Claim7.holds Tryd.pinned (.plain (OpenSpec.upto blastShapeSpec)) blastShapeUptoCard

/-- THE SECOND FORM's CARD OF 'retargetlaw04.BlastNames'. -/
def blastNamesUptoCard : Claim7 := { stood := { row := blastNamesUptoRow, standIns := [], harness := (true, "d8855c8726cdf85ab5c679fd0b71eab4b2c08cd1316c60171df7c6d4ceb72661"), looks := false }, kinds := [], alts := [], laidByText := true, laidKinds := [.data], laidTests := true, laidLooks := .later }
def BlastNamesUptoCardSaid : Prop := Claim7.holds Tryd.pinned (.plain (OpenSpec.upto blastNamesSpec)) blastNamesUptoCard

/-- THE SECOND FORM's CARD OF 'retargetlaw04.BlastSatisfied'. -/
def blastSatisfiedUptoCard : Claim7 := { stood := { row := blastSatisfiedUptoRow, standIns := [], harness := (true, "d8855c8726cdf85ab5c679fd0b71eab4b2c08cd1316c60171df7c6d4ceb72661"), looks := false }, kinds := [], alts := [], laidByText := true, laidKinds := [.data], laidTests := true, laidLooks := .later }
def BlastSatisfiedUptoCardSaid : Prop := Claim7.holds Tryd.pinned (.plain (OpenSpec.upto blastSatisfiedSpec)) blastSatisfiedUptoCard
end Rows
end Go.Proofs.YtlcbcacnbjekpaaDoor
