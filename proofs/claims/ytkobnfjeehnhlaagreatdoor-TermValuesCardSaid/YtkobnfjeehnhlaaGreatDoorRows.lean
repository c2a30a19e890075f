/-
  NARROWER THAN 'FOR EVERY INPUT', by the rows' own cells (each row's printed sentence says how): TermValues: loops, laid · TermCompose: loops, laid · TermBytes: laid · TermReplace: loops, laid · TermInverse: loops, laid · TermNames: laid.
  DERIVED. THE GIVEN ROWS OF THIS SEAT. 6 by the template 'for every input the law returns true; each argument reads behind the call as it read before'; 0 by the template 'total and deterministic' (their statements: YtkobnfjeehnhlaaGreatDoorTotals.lean).
  GIVEN WITH THE SEED: the statements are not yours to turn. If you find one false, say at which input.
  Laid BY PROGRAM, IN A SANDBOX (cutbox-rows.mjs): the forced cells as the released guide's own fill.sh prints them over the translation adcccc813232a8a8… (all of the seat's roots in one cut). By AI agents, Wed Nov 11 2026. No macro, syntax, notation, axiom, sorry.
-/
import Derived.Test.YtkobnfjeehnhlaaGreatDoorChecked
import GoSem.Claim
import GoSem.ClaimJoined
import GoSem.ClaimMapViews
import Derived.JoinedTies
import Derived.KernelRfl
namespace Go.Proofs.YtkobnfjeehnhlaaGreatDoor
/- THE CELL 'sum', in the pinned program and in every row, IS THE sha256 OF THE DUMP (.gsa) THAT YtkobnfjeehnhlaaGreatDoorProg.lean LOADS. Nothing in Lean hashes anything: it is a label: what it is worth is what the hold of that sum in a sandbox is worth. -/
noncomputable def Tryz.pinned : Pinned := { name := "ytkobnfjeehnhlaagreatdoor", sum := "adcccc813232a8a86868881224f7014e9ed734e1d7ede3623a51f927191766b0", checked := Tryz.checked }
namespace Rows
def none {H : Type} : Left H := { results := [], args := [] }

/- WHAT THE LISTED PACKAGE-LEVEL VARIABLES READ AS WHEN THE CALL BEGINS. Each datum BY PROGRAM (the guide's laid-datum.mjs) off the statement by which the dump's own 'gosem.cut.vars' lays the variable. In a bare row this is a premise. The card (YtkobnfjeehnhlaaGreatDoorCards.lean) ties it to the program's text. -/
def laid_retarget_term_shapes {H : Type} : DataW H := .agg [.agg [.lit (.string []), .lit (.int .i64 0), .lit (.int .i64 0)], .agg [.lit (.string []), .lit (.int .i64 0), .lit (.int .i64 0)], .agg [.lit (.string []), .lit (.int .i64 0), .lit (.int .i64 0)], .agg [.lit (.string [110, 111, 116]), .lit (.int .i64 1), .lit (.int .i64 1)], .agg [.lit (.string [110, 101, 103]), .lit (.int .i64 1), .lit (.int .i64 1)], .agg [.lit (.string [97, 100, 100]), .lit (.int .i64 2), .lit (.int .i64 1)], .agg [.lit (.string [115, 117, 98]), .lit (.int .i64 2), .lit (.int .i64 1)], .agg [.lit (.string [109, 117, 108]), .lit (.int .i64 2), .lit (.int .i64 1)], .agg [.lit (.string [97, 110, 100]), .lit (.int .i64 2), .lit (.int .i64 1)], .agg [.lit (.string [111, 114]), .lit (.int .i64 2), .lit (.int .i64 1)], .agg [.lit (.string [120, 111, 114]), .lit (.int .i64 2), .lit (.int .i64 1)], .agg [.lit (.string [115, 104, 108]), .lit (.int .i64 2), .lit (.int .i64 1)], .agg [.lit (.string [115, 104, 114]), .lit (.int .i64 2), .lit (.int .i64 1)], .agg [.lit (.string [115, 97, 114]), .lit (.int .i64 2), .lit (.int .i64 1)], .agg [.lit (.string [117, 100, 105, 118]), .lit (.int .i64 2), .lit (.int .i64 1)], .agg [.lit (.string [117, 114, 101, 109]), .lit (.int .i64 2), .lit (.int .i64 1)], .agg [.lit (.string [101, 113]), .lit (.int .i64 2), .lit (.int .i64 2)], .agg [.lit (.string [117, 108, 116]), .lit (.int .i64 2), .lit (.int .i64 2)], .agg [.lit (.string [115, 108, 116]), .lit (.int .i64 2), .lit (.int .i64 2)], .agg [.lit (.string [105, 116, 101]), .lit (.int .i64 3), .lit (.int .i64 3)], .agg [.lit (.string [99, 111, 110, 99, 97, 116]), .lit (.int .i64 2), .lit (.int .i64 4)], .agg [.lit (.string [101, 120, 116, 114, 97, 99, 116]), .lit (.int .i64 1), .lit (.int .i64 5)], .agg [.lit (.string [122, 101, 120, 116]), .lit (.int .i64 1), .lit (.int .i64 6)], .agg [.lit (.string [115, 101, 120, 116]), .lit (.int .i64 1), .lit (.int .i64 6)], .agg [.lit (.string [108, 111, 97, 100]), .lit (.int .i64 1), .lit (.int .i64 7)]]

/-- 'retargetlaw02.TermValues': WHATEVER THE INPUT: true; the input reads as it did. -/
def termValuesSpec : ChangeSpec := { name := "termValues", fn := fun _ => fun
  | [d1, d2, d3, d4, d5, d6] => { results := [.lit (.bool true)], args := [d1, d2, d3, d4, d5, d6] }
  | _ => none }
def termValuesRow : OpenClaim := { program := "ytkobnfjeehnhlaagreatdoor", sum := "adcccc813232a8a86868881224f7014e9ed734e1d7ede3623a51f927191766b0", func := "retarget/retargetlaw02.TermValues", spec := "termValues", inPlace := ["internal/bytealg.abigen_runtime_cmpstring"], unfollowed := true, recurses := true, named := ["retarget/term.shapes"], loops := true, apart := false, laid := [("retarget/term.shapes", laid_retarget_term_shapes)] }
def TermValuesSaid : Prop := termValuesRow.holds Tryz.pinned (OpenSpec.ofChange termValuesSpec)

/-- ITS FALSE NEIGHBOUR: 'it returns false'. Refute it at one input. -/
def termValuesWrong : ChangeSpec := { name := "termValues", fn := fun _ => fun
  | [d1, d2, d3, d4, d5, d6] => { results := [.lit (.bool false)], args := [d1, d2, d3, d4, d5, d6] }
  | _ => none }
def TermValuesWrongFalsely : Prop := termValuesRow.holds Tryz.pinned (OpenSpec.ofChange termValuesWrong)

/-- 'retargetlaw02.TermCompose': WHATEVER THE INPUT: true; the input reads as it did. -/
def termComposeSpec : ChangeSpec := { name := "termCompose", fn := fun _ => fun
  | [d1, d2, d3] => { results := [.lit (.bool true)], args := [d1, d2, d3] }
  | _ => none }
def termComposeRow : OpenClaim := { program := "ytkobnfjeehnhlaagreatdoor", sum := "adcccc813232a8a86868881224f7014e9ed734e1d7ede3623a51f927191766b0", func := "retarget/retargetlaw02.TermCompose", spec := "termCompose", inPlace := ["internal/bytealg.IndexByteString", "internal/bytealg.IndexString", "internal/bytealg.abigen_runtime_cmpstring"], unfollowed := true, recurses := true, named := ["retarget/term.shapes", "internal/bytealg.MaxLen"], loops := true, apart := false, laid := [("retarget/term.shapes", laid_retarget_term_shapes)] }
def TermComposeSaid : Prop := termComposeRow.holds Tryz.pinned (OpenSpec.ofChange termComposeSpec)

/-- ITS FALSE NEIGHBOUR: 'it returns false'. Refute it at one input. -/
def termComposeWrong : ChangeSpec := { name := "termCompose", fn := fun _ => fun
  | [d1, d2, d3] => { results := [.lit (.bool false)], args := [d1, d2, d3] }
  | _ => none }
def TermComposeWrongFalsely : Prop := termComposeRow.holds Tryz.pinned (OpenSpec.ofChange termComposeWrong)

/-- 'retargetlaw02.TermBytes': WHATEVER THE INPUT: true; the input reads as it did. -/
def termBytesSpec : ChangeSpec := { name := "termBytes", fn := fun _ => fun
  | [d1, d2, d3] => { results := [.lit (.bool true)], args := [d1, d2, d3] }
  | _ => none }
def termBytesRow : OpenClaim := { program := "ytkobnfjeehnhlaagreatdoor", sum := "adcccc813232a8a86868881224f7014e9ed734e1d7ede3623a51f927191766b0", func := "retarget/retargetlaw02.TermBytes", spec := "termBytes", inPlace := ["internal/bytealg.IndexByteString", "internal/bytealg.IndexString", "internal/bytealg.abigen_runtime_cmpstring"], unfollowed := true, recurses := true, named := ["retarget/term.shapes", "internal/bytealg.MaxLen"], apart := false, laid := [("retarget/term.shapes", laid_retarget_term_shapes)] }
def TermBytesSaid : Prop := termBytesRow.holds Tryz.pinned (OpenSpec.ofChange termBytesSpec)

/-- ITS FALSE NEIGHBOUR: 'it returns false'. Refute it at one input. -/
def termBytesWrong : ChangeSpec := { name := "termBytes", fn := fun _ => fun
  | [d1, d2, d3] => { results := [.lit (.bool false)], args := [d1, d2, d3] }
  | _ => none }
def TermBytesWrongFalsely : Prop := termBytesRow.holds Tryz.pinned (OpenSpec.ofChange termBytesWrong)

/-- 'retargetlaw02.TermReplace': WHATEVER THE INPUT: true; the input reads as it did. -/
def termReplaceSpec : ChangeSpec := { name := "termReplace", fn := fun _ => fun
  | [d1, d2, d3, d4, d5] => { results := [.lit (.bool true)], args := [d1, d2, d3, d4, d5] }
  | _ => none }
def termReplaceRow : OpenClaim := { program := "ytkobnfjeehnhlaagreatdoor", sum := "adcccc813232a8a86868881224f7014e9ed734e1d7ede3623a51f927191766b0", func := "retarget/retargetlaw02.TermReplace", spec := "termReplace", inPlace := ["internal/bytealg.IndexByteString", "internal/bytealg.IndexString", "internal/bytealg.abigen_runtime_cmpstring"], unfollowed := true, recurses := true, named := ["retarget/term.shapes", "internal/bytealg.MaxLen"], loops := true, apart := false, laid := [("retarget/term.shapes", laid_retarget_term_shapes)] }
def TermReplaceSaid : Prop := termReplaceRow.holds Tryz.pinned (OpenSpec.ofChange termReplaceSpec)

/-- ITS FALSE NEIGHBOUR: 'it returns false'. Refute it at one input. -/
def termReplaceWrong : ChangeSpec := { name := "termReplace", fn := fun _ => fun
  | [d1, d2, d3, d4, d5] => { results := [.lit (.bool false)], args := [d1, d2, d3, d4, d5] }
  | _ => none }
def TermReplaceWrongFalsely : Prop := termReplaceRow.holds Tryz.pinned (OpenSpec.ofChange termReplaceWrong)

/-- 'retargetlaw02.TermInverse': WHATEVER THE INPUT: true; the input reads as it did. -/
def termInverseSpec : ChangeSpec := { name := "termInverse", fn := fun _ => fun
  | [d1, d2] => { results := [.lit (.bool true)], args := [d1, d2] }
  | _ => none }
def termInverseRow : OpenClaim := { program := "ytkobnfjeehnhlaagreatdoor", sum := "adcccc813232a8a86868881224f7014e9ed734e1d7ede3623a51f927191766b0", func := "retarget/retargetlaw02.TermInverse", spec := "termInverse", inPlace := ["internal/bytealg.IndexByteString", "internal/bytealg.IndexString", "internal/bytealg.abigen_runtime_cmpstring", "internal/abi.NoEscape", "internal/bytealg.MakeNoZero"], unfollowed := true, recurses := true, named := ["retarget/term.shapes", "internal/bytealg.MaxLen"], loops := true, apart := false, laid := [("retarget/term.shapes", laid_retarget_term_shapes)] }
def TermInverseSaid : Prop := termInverseRow.holds Tryz.pinned (OpenSpec.ofChange termInverseSpec)

/-- ITS FALSE NEIGHBOUR: 'it returns false'. Refute it at one input. -/
def termInverseWrong : ChangeSpec := { name := "termInverse", fn := fun _ => fun
  | [d1, d2] => { results := [.lit (.bool false)], args := [d1, d2] }
  | _ => none }
def TermInverseWrongFalsely : Prop := termInverseRow.holds Tryz.pinned (OpenSpec.ofChange termInverseWrong)

/-- 'retargetlaw02.TermNames': WHATEVER THE INPUT: true; the input reads as it did. -/
def termNamesSpec : ChangeSpec := { name := "termNames", fn := fun _ => fun
  | [] => { results := [.lit (.bool true)], args := [] }
  | _ => none }
def termNamesRow : OpenClaim := { program := "ytkobnfjeehnhlaagreatdoor", sum := "adcccc813232a8a86868881224f7014e9ed734e1d7ede3623a51f927191766b0", func := "retarget/retargetlaw02.TermNames", spec := "termNames", inPlace := ["internal/abi.NoEscape", "internal/bytealg.MakeNoZero", "internal/bytealg.IndexByteString", "internal/bytealg.IndexString", "internal/bytealg.abigen_runtime_cmpstring"], unfollowed := true, recurses := true, named := ["retarget/term.shapes", "internal/bytealg.MaxLen"], apart := false, laid := [("retarget/term.shapes", laid_retarget_term_shapes)] }
def TermNamesSaid : Prop := termNamesRow.holds Tryz.pinned (OpenSpec.ofChange termNamesSpec)

/-- ITS FALSE NEIGHBOUR: 'it returns false'. Refute it at one input. -/
def termNamesWrong : ChangeSpec := { name := "termNames", fn := fun _ => fun
  | [] => { results := [.lit (.bool false)], args := [] }
  | _ => none }
def TermNamesWrongFalsely : Prop := termNamesRow.holds Tryz.pinned (OpenSpec.ofChange termNamesWrong)

/- THE SECOND FORM. 'bulk': how many values and letters a reading holds, each counted each time it is reached (what is shared counts as often as it is met; a slice's spare places count too). A statement '..UptoSaid' is the law's where the arguments, and the package variables that the reading takes, are together of bulk at most 1048576: NARROWER than '..Said'. Prove '..Said' where nothing that the law and all that it calls make is longer than what came in: it says more and counts as full. Else prove '..UptoSaid'. A law counts once. -/
mutual
def uptoBulk {H : Type} : DataW H → Nat
  | .lit (.string bytes) => bytes.length + 1
  | .lit _ => 1
  | .nil => 1
  | .ptr d => uptoBulk d + 1
  | .slice elems spare => uptoBulkAll elems + uptoBulkAll spare + 1
  | .agg parts => uptoBulkAll parts + 1
  | .iface _ d => uptoBulk d + 1
  | .map entries => uptoBulkEntries entries + 1
  | .held _ => 1
def uptoBulkAll {H : Type} : List (DataW H) → Nat
  | [] => 0
  | d :: r => uptoBulk d + uptoBulkAll r
def uptoBulkEntries {H : Type} : List (Lit × DataW H) → Nat
  | [] => 0
  | x :: r => uptoBulkEntry x + uptoBulkEntries r
def uptoBulkEntry {H : Type} : Lit × DataW H → Nat
  | (.string bytes, d) => bytes.length + uptoBulk d + 1
  | (_, d) => uptoBulk d + 1
 end
def uptoSmall : (H : Type) → List (DataW H) → Bool := fun _ ds => decide (uptoBulkAll ds ≤ 1048576)
def OpenSpec.upto (s : _root_.Go.ChangeSpec) : _root_.Go.OpenSpec := { _root_.Go.OpenSpec.ofChange s with cond := some uptoSmall }

/-- 'retargetlaw02.TermValues', WHERE WHAT IT READS IS OF BULK AT MOST 1048576: true; the input reads as it did. -/
def termValuesUptoRow : OpenClaim := { program := "ytkobnfjeehnhlaagreatdoor", sum := "adcccc813232a8a86868881224f7014e9ed734e1d7ede3623a51f927191766b0", func := "retarget/retargetlaw02.TermValues", spec := "termValues", inPlace := ["internal/bytealg.abigen_runtime_cmpstring"], unfollowed := true, recurses := true, named := ["retarget/term.shapes"], loops := true, apart := false, laid := [("retarget/term.shapes", laid_retarget_term_shapes)], narrowed := true }
def TermValuesUptoSaid : Prop := termValuesUptoRow.holds Tryz.pinned (OpenSpec.upto termValuesSpec)

/-- 'retargetlaw02.TermCompose', WHERE WHAT IT READS IS OF BULK AT MOST 1048576: true; the input reads as it did. -/
def termComposeUptoRow : OpenClaim := { program := "ytkobnfjeehnhlaagreatdoor", sum := "adcccc813232a8a86868881224f7014e9ed734e1d7ede3623a51f927191766b0", func := "retarget/retargetlaw02.TermCompose", spec := "termCompose", inPlace := ["internal/bytealg.IndexByteString", "internal/bytealg.IndexString", "internal/bytealg.abigen_runtime_cmpstring"], unfollowed := true, recurses := true, named := ["retarget/term.shapes", "internal/bytealg.MaxLen"], loops := true, apart := false, laid := [("retarget/term.shapes", laid_retarget_term_shapes)], narrowed := true }
def TermComposeUptoSaid : Prop := termComposeUptoRow.holds Tryz.pinned (OpenSpec.upto termComposeSpec)

/-- 'retargetlaw02.TermBytes', WHERE WHAT IT READS IS OF BULK AT MOST 1048576: true; the input reads as it did. -/
def termBytesUptoRow : OpenClaim := { program := "ytkobnfjeehnhlaagreatdoor", sum := "adcccc813232a8a86868881224f7014e9ed734e1d7ede3623a51f927191766b0", func := "retarget/retargetlaw02.TermBytes", spec := "termBytes", inPlace := ["internal/bytealg.IndexByteString", "internal/bytealg.IndexString", "internal/bytealg.abigen_runtime_cmpstring"], unfollowed := true, recurses := true, named := ["retarget/term.shapes", "internal/bytealg.MaxLen"], apart := false, laid := [("retarget/term.shapes", laid_retarget_term_shapes)], narrowed := true }
def TermBytesUptoSaid : Prop := termBytesUptoRow.holds Tryz.pinned (OpenSpec.upto termBytesSpec)

/-- 'retargetlaw02.TermReplace', WHERE WHAT IT READS IS OF BULK AT MOST 1048576: true; the input reads as it did. -/
def termReplaceUptoRow : OpenClaim := { program := "ytkobnfjeehnhlaagreatdoor", sum := "adcccc813232a8a86868881224f7014e9ed734e1d7ede3623a51f927191766b0", func := "retarget/retargetlaw02.TermReplace", spec := "termReplace", inPlace := ["internal/bytealg.IndexByteString", "internal/bytealg.IndexString", "internal/bytealg.abigen_runtime_cmpstring"], unfollowed := true, recurses := true, named := ["retarget/term.shapes", "internal/bytealg.MaxLen"], loops := true, apart := false, laid := [("retarget/term.shapes", laid_retarget_term_shapes)], narrowed := true }
def TermReplaceUptoSaid : Prop := termReplaceUptoRow.holds Tryz.pinned (OpenSpec.upto termReplaceSpec)

/-- 'retargetlaw02.TermInverse', WHERE WHAT IT READS IS OF BULK AT MOST 1048576: true; the input reads as it did. -/
def termInverseUptoRow : OpenClaim := { program := "ytkobnfjeehnhlaagreatdoor", sum := "adcccc813232a8a86868881224f7014e9ed734e1d7ede3623a51f927191766b0", func := "retarget/retargetlaw02.TermInverse", spec := "termInverse", inPlace := ["internal/bytealg.IndexByteString", "internal/bytealg.IndexString", "internal/bytealg.abigen_runtime_cmpstring", "internal/abi.NoEscape", "internal/bytealg.MakeNoZero"], unfollowed := true, recurses := true, named := ["retarget/term.shapes", "internal/bytealg.MaxLen"], loops := true, apart := false, laid := [("retarget/term.shapes", laid_retarget_term_shapes)], narrowed := true }
def TermInverseUptoSaid : Prop := termInverseUptoRow.holds Tryz.pinned (OpenSpec.upto termInverseSpec)

/-- 'retargetlaw02.TermNames', WHERE WHAT IT READS IS OF BULK AT MOST 1048576: true; the input reads as it did. -/
def termNamesUptoRow : OpenClaim := { program := "ytkobnfjeehnhlaagreatdoor", sum := "adcccc813232a8a86868881224f7014e9ed734e1d7ede3623a51f927191766b0", func := "retarget/retargetlaw02.TermNames", spec := "termNames", inPlace := ["internal/abi.NoEscape", "internal/bytealg.MakeNoZero", "internal/bytealg.IndexByteString", "internal/bytealg.IndexString", "internal/bytealg.abigen_runtime_cmpstring"], unfollowed := true, recurses := true, named := ["retarget/term.shapes", "internal/bytealg.MaxLen"], apart := false, laid := [("retarget/term.shapes", laid_retarget_term_shapes)], narrowed := true }
def TermNamesUptoSaid : Prop := termNamesUptoRow.holds Tryz.pinned (OpenSpec.upto termNamesSpec)

end Rows
end Go.Proofs.YtkobnfjeehnhlaaGreatDoor
