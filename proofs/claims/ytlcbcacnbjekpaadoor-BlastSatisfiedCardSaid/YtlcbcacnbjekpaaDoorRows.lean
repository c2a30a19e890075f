/-
  NARROWER THAN 'FOR EVERY INPUT', by the rows' own cells (each row's printed sentence says how): BlastShape: loops, laid · BlastNames: laid · BlastSatisfied: laid.
  DERIVED. THE GIVEN ROWS OF THIS SEAT. 3 by the template 'for every input the law returns true; each argument reads behind the call as it read before'; 0 by the template 'total and deterministic' (their statements: YtlcbcacnbjekpaaDoorTotals.lean).
  GIVEN WITH THE SEED: the statements are not yours to turn. If you find one false, say at which input.
  Laid BY PROGRAM, IN A SANDBOX (cutbox-rows.mjs): the forced cells as the released guide's own fill.sh prints them over the translation 0543ededdab94f04… (all of the seat's roots in one cut). By AI agents, Wed Nov 11 2026. No macro, syntax, notation, axiom, sorry.
-/
import Derived.Test.YtlcbcacnbjekpaaDoorChecked
import GoSem.Claim
import GoSem.ClaimJoined
import GoSem.ClaimMapViews
import Derived.JoinedTies
import Derived.KernelRfl
namespace Go.Proofs.YtlcbcacnbjekpaaDoor
/- THE CELL 'sum', in the pinned program and in every row, IS THE sha256 OF THE DUMP (.gsa) THAT YtlcbcacnbjekpaaDoorProg.lean LOADS. Nothing in Lean hashes anything: it is a label: what it is worth is what the hold of that sum in a sandbox is worth. -/
noncomputable def Tryd.pinned : Pinned := { name := "ytlcbcacnbjekpaadoor", sum := "0543ededdab94f043929a48a173ede8a69b2f300ee90383c267a16bd115d3f96", checked := Tryd.checked }
namespace Rows
def none {H : Type} : Left H := { results := [], args := [] }

/- WHAT THE LISTED PACKAGE-LEVEL VARIABLES READ AS WHEN THE CALL BEGINS. Each datum BY PROGRAM (the guide's laid-datum.mjs) off the statement by which the dump's own 'gosem.cut.vars' lays the variable. In a bare row this is a premise. The card (YtlcbcacnbjekpaaDoorCards.lean) ties it to the program's text. -/
def laid_retarget_term_shapes {H : Type} : DataW H := .agg [.agg [.lit (.string []), .lit (.int .i64 0), .lit (.int .i64 0)], .agg [.lit (.string []), .lit (.int .i64 0), .lit (.int .i64 0)], .agg [.lit (.string []), .lit (.int .i64 0), .lit (.int .i64 0)], .agg [.lit (.string [110, 111, 116]), .lit (.int .i64 1), .lit (.int .i64 1)], .agg [.lit (.string [110, 101, 103]), .lit (.int .i64 1), .lit (.int .i64 1)], .agg [.lit (.string [97, 100, 100]), .lit (.int .i64 2), .lit (.int .i64 1)], .agg [.lit (.string [115, 117, 98]), .lit (.int .i64 2), .lit (.int .i64 1)], .agg [.lit (.string [109, 117, 108]), .lit (.int .i64 2), .lit (.int .i64 1)], .agg [.lit (.string [97, 110, 100]), .lit (.int .i64 2), .lit (.int .i64 1)], .agg [.lit (.string [111, 114]), .lit (.int .i64 2), .lit (.int .i64 1)], .agg [.lit (.string [120, 111, 114]), .lit (.int .i64 2), .lit (.int .i64 1)], .agg [.lit (.string [115, 104, 108]), .lit (.int .i64 2), .lit (.int .i64 1)], .agg [.lit (.string [115, 104, 114]), .lit (.int .i64 2), .lit (.int .i64 1)], .agg [.lit (.string [115, 97, 114]), .lit (.int .i64 2), .lit (.int .i64 1)], .agg [.lit (.string [117, 100, 105, 118]), .lit (.int .i64 2), .lit (.int .i64 1)], .agg [.lit (.string [117, 114, 101, 109]), .lit (.int .i64 2), .lit (.int .i64 1)], .agg [.lit (.string [101, 113]), .lit (.int .i64 2), .lit (.int .i64 2)], .agg [.lit (.string [117, 108, 116]), .lit (.int .i64 2), .lit (.int .i64 2)], .agg [.lit (.string [115, 108, 116]), .lit (.int .i64 2), .lit (.int .i64 2)], .agg [.lit (.string [105, 116, 101]), .lit (.int .i64 3), .lit (.int .i64 3)], .agg [.lit (.string [99, 111, 110, 99, 97, 116]), .lit (.int .i64 2), .lit (.int .i64 4)], .agg [.lit (.string [101, 120, 116, 114, 97, 99, 116]), .lit (.int .i64 1), .lit (.int .i64 5)], .agg [.lit (.string [122, 101, 120, 116]), .lit (.int .i64 1), .lit (.int .i64 6)], .agg [.lit (.string [115, 101, 120, 116]), .lit (.int .i64 1), .lit (.int .i64 6)], .agg [.lit (.string [108, 111, 97, 100]), .lit (.int .i64 1), .lit (.int .i64 7)]]

/-- 'retargetlaw04.BlastShape': WHATEVER THE INPUT: true; the input reads as it did. -/
def blastShapeSpec : ChangeSpec := { name := "blastShape", fn := fun _ => fun
  | [d] => { results := [.lit (.bool true)], args := [d] }
  | _ => none }
def blastShapeRow : OpenClaim := { program := "ytlcbcacnbjekpaadoor", sum := "0543ededdab94f043929a48a173ede8a69b2f300ee90383c267a16bd115d3f96", func := "retarget/retargetlaw04.BlastShape", spec := "blastShape", inPlace := ["internal/bytealg.abigen_runtime_cmpstring"], unfollowed := true, recurses := true, named := ["retarget/term.shapes"], loops := true, plainKeys := false, apart := false, laid := [("retarget/term.shapes", laid_retarget_term_shapes)] }
def BlastShapeSaid : Prop := blastShapeRow.holds Tryd.pinned (OpenSpec.ofChange blastShapeSpec)

/-- ITS FALSE NEIGHBOUR: 'it returns false'. Refute it at one input. -/
def blastShapeWrong : ChangeSpec := { name := "blastShape", fn := fun _ => fun
  | [d] => { results := [.lit (.bool false)], args := [d] }
  | _ => none }
def BlastShapeWrongFalsely : Prop := blastShapeRow.holds Tryd.pinned (OpenSpec.ofChange blastShapeWrong)

/-- 'retargetlaw04.BlastNames': WHATEVER THE INPUT: true; the input reads as it did. -/
def blastNamesSpec : ChangeSpec := { name := "blastNames", fn := fun _ => fun
  | [] => { results := [.lit (.bool true)], args := [] }
  | _ => none }
def blastNamesRow : OpenClaim := { program := "ytlcbcacnbjekpaadoor", sum := "0543ededdab94f043929a48a173ede8a69b2f300ee90383c267a16bd115d3f96", func := "retarget/retargetlaw04.BlastNames", spec := "blastNames", inPlace := ["internal/bytealg.abigen_runtime_cmpstring"], unfollowed := true, recurses := true, named := ["retarget/term.shapes"], plainKeys := false, apart := false, laid := [("retarget/term.shapes", laid_retarget_term_shapes)] }
def BlastNamesSaid : Prop := blastNamesRow.holds Tryd.pinned (OpenSpec.ofChange blastNamesSpec)

/-- ITS FALSE NEIGHBOUR: 'it returns false'. Refute it at one input. -/
def blastNamesWrong : ChangeSpec := { name := "blastNames", fn := fun _ => fun
  | [] => { results := [.lit (.bool false)], args := [] }
  | _ => none }
def BlastNamesWrongFalsely : Prop := blastNamesRow.holds Tryd.pinned (OpenSpec.ofChange blastNamesWrong)

/-- 'retargetlaw04.BlastSatisfied': WHATEVER THE INPUT: true; the input reads as it did. -/
def blastSatisfiedSpec : ChangeSpec := { name := "blastSatisfied", fn := fun _ => fun
  | [d1, d2, d3, d4] => { results := [.lit (.bool true)], args := [d1, d2, d3, d4] }
  | _ => none }
def blastSatisfiedRow : OpenClaim := { program := "ytlcbcacnbjekpaadoor", sum := "0543ededdab94f043929a48a173ede8a69b2f300ee90383c267a16bd115d3f96", func := "retarget/retargetlaw04.BlastSatisfied", spec := "blastSatisfied", inPlace := ["internal/bytealg.abigen_runtime_cmpstring"], unfollowed := true, recurses := true, named := ["retarget/term.shapes"], plainKeys := false, apart := false, laid := [("retarget/term.shapes", laid_retarget_term_shapes)] }
def BlastSatisfiedSaid : Prop := blastSatisfiedRow.holds Tryd.pinned (OpenSpec.ofChange blastSatisfiedSpec)

/-- ITS FALSE NEIGHBOUR: 'it returns false'. Refute it at one input. -/
def blastSatisfiedWrong : ChangeSpec := { name := "blastSatisfied", fn := fun _ => fun
  | [d1, d2, d3, d4] => { results := [.lit (.bool false)], args := [d1, d2, d3, d4] }
  | _ => none }
def BlastSatisfiedWrongFalsely : Prop := blastSatisfiedRow.holds Tryd.pinned (OpenSpec.ofChange blastSatisfiedWrong)

/- THE SECOND FORM. 'bulk': how many values and letters a reading holds, each counted each time it is reached (what is shared counts as often as it is met; a slice's spare places count too). A statement '..UptoSaid' is the law's where the arguments, and the package variables that the reading takes, are together of bulk at most 1048576: NARROWER than '..Said'. Prove '..Said' where nothing that the law and all that it calls make is longer than what came in: it says more and counts as full. Else prove '..UptoSaid'. A law counts once. -/
mutual
def uptoBulk {H : Type} : DataW H → Nat
  | .lit (.string bytes) => bytes.length + 1
  | .lit _ => 1
  | .nil => 1
  | .ptr d => uptoBulk d + 1
  | .slice elems spare => uptoBulkAll elems + uptoBulkAll spare + 1
  | .agg parts => uptoBulkAll parts + 1
  | .iface _ d => uptoBulk d + 1
  | .map entries => uptoBulkEntries entries + 1
  | .held _ => 1
def uptoBulkAll {H : Type} : List (DataW H) → Nat
  | [] => 0
  | d :: r => uptoBulk d + uptoBulkAll r
def uptoBulkEntries {H : Type} : List (Lit × DataW H) → Nat
  | [] => 0
  | x :: r => uptoBulkEntry x + uptoBulkEntries r
def uptoBulkEntry {H : Type} : Lit × DataW H → Nat
  | (.string bytes, d) => bytes.length + uptoBulk d + 1
  | (_, d) => uptoBulk d + 1
 end
def uptoSmall : (H : Type) → List (DataW H) → Bool := fun _ ds => decide (uptoBulkAll ds ≤ 1048576)
def OpenSpec.upto (s : _root_.Go.ChangeSpec) : _root_.Go.OpenSpec := { _root_.Go.OpenSpec.ofChange s with cond := some uptoSmall }

/-- 'retargetlaw04.BlastShape', WHERE WHAT IT READS IS OF BULK AT MOST 1048576: true; the input reads as it did. -/
def blastShapeUptoRow : OpenClaim := { program := "ytlcbcacnbjekpaadoor", sum := "0543ededdab94f043929a48a173ede8a69b2f300ee90383c267a16bd115d3f96", func := "retarget/retargetlaw04.BlastShape", spec := "blastShape", inPlace := ["internal/bytealg.abigen_runtime_cmpstring"], unfollowed := true, recurses := true, named := ["retarget/term.shapes"], loops := true, plainKeys := false, apart := false, laid := [("retarget/term.shapes", laid_retarget_term_shapes)], narrowed := true }
def BlastShapeUptoSaid : Prop := blastShapeUptoRow.holds Tryd.pinned (OpenSpec.upto blastShapeSpec)

/-- 'retargetlaw04.BlastNames', WHERE WHAT IT READS IS OF BULK AT MOST 1048576: true; the input reads as it did. -/
def blastNamesUptoRow : OpenClaim := { program := "ytlcbcacnbjekpaadoor", sum := "0543ededdab94f043929a48a173ede8a69b2f300ee90383c267a16bd115d3f96", func := "retarget/retargetlaw04.BlastNames", spec := "blastNames", inPlace := ["internal/bytealg.abigen_runtime_cmpstring"], unfollowed := true, recurses := true, named := ["retarget/term.shapes"], plainKeys := false, apart := false, laid := [("retarget/term.shapes", laid_retarget_term_shapes)], narrowed := true }
def BlastNamesUptoSaid : Prop := blastNamesUptoRow.holds Tryd.pinned (OpenSpec.upto blastNamesSpec)

/-- 'retargetlaw04.BlastSatisfied', WHERE WHAT IT READS IS OF BULK AT MOST 1048576: true; the input reads as it did. -/
def blastSatisfiedUptoRow : OpenClaim := { program := "ytlcbcacnbjekpaadoor", sum := "0543ededdab94f043929a48a173ede8a69b2f300ee90383c267a16bd115d3f96", func := "retarget/retargetlaw04.BlastSatisfied", spec := "blastSatisfied", inPlace := ["internal/bytealg.abigen_runtime_cmpstring"], unfollowed := true, recurses := true, named := ["retarget/term.shapes"], plainKeys := false, apart := false, laid := [("retarget/term.shapes", laid_retarget_term_shapes)], narrowed := true }
def BlastSatisfiedUptoSaid : Prop := blastSatisfiedUptoRow.holds Tryd.pinned (OpenSpec.upto blastSatisfiedSpec)

end Rows
end Go.Proofs.YtlcbcacnbjekpaaDoor
