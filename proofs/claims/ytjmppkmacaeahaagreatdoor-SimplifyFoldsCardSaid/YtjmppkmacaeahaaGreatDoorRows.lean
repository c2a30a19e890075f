/-
  NARROWER THAN 'FOR EVERY INPUT', by the rows' own cells (each row's printed sentence says how): SimplifyTells: loops, laid · SimplifyNames: laid · SimplifyKeeps: loops, laid · SimplifySettles: loops, laid · SimplifyLaws: loops, laid · SimplifySmaller: loops, laid · SimplifyFolds: loops, laid.
  DERIVED. THE GIVEN ROWS OF THIS SEAT. 7 by the template 'for every input the law returns true; each argument reads behind the call as it read before'; 0 by the template 'total and deterministic' (their statements: YtjmppkmacaeahaaGreatDoorTotals.lean).
  GIVEN WITH THE SEED: the statements are not yours to turn. If you find one false, say at which input.
  Laid BY PROGRAM, IN A SANDBOX (cutbox-rows.mjs): the forced cells as the released guide's own fill.sh prints them over the translation 0be0afb8f1def708… (all of the seat's roots in one cut). By AI agents, Wed Nov 11 2026. No macro, syntax, notation, axiom, sorry.
-/
import Derived.Test.YtjmppkmacaeahaaGreatDoorChecked
import GoSem.Claim
import GoSem.ClaimJoined
import GoSem.ClaimMapViews
import Derived.JoinedTies
import Derived.KernelRfl
namespace Go.Proofs.YtjmppkmacaeahaaGreatDoor
/- THE CELL 'sum', in the pinned program and in every row, IS THE sha256 OF THE DUMP (.gsa) THAT YtjmppkmacaeahaaGreatDoorProg.lean LOADS. Nothing in Lean hashes anything: it is a label: what it is worth is what the hold of that sum in a sandbox is worth. -/
noncomputable def Tryz.pinned : Pinned := { name := "ytjmppkmacaeahaagreatdoor", sum := "0be0afb8f1def708adb09e922e952cbe846a47637179a1a374c5f060af951e9b", checked := Tryz.checked }
namespace Rows
def none {H : Type} : Left H := { results := [], args := [] }

/- WHAT THE LISTED PACKAGE-LEVEL VARIABLES READ AS WHEN THE CALL BEGINS. Each datum BY PROGRAM (the guide's laid-datum.mjs) off the statement by which the dump's own 'gosem.cut.vars' lays the variable. In a bare row this is a premise. The card (YtjmppkmacaeahaaGreatDoorCards.lean) ties it to the program's text. -/
def laid_retarget_term_shapes {H : Type} : DataW H := .agg [.agg [.lit (.string []), .lit (.int .i64 0), .lit (.int .i64 0)], .agg [.lit (.string []), .lit (.int .i64 0), .lit (.int .i64 0)], .agg [.lit (.string []), .lit (.int .i64 0), .lit (.int .i64 0)], .agg [.lit (.string [110, 111, 116]), .lit (.int .i64 1), .lit (.int .i64 1)], .agg [.lit (.string [110, 101, 103]), .lit (.int .i64 1), .lit (.int .i64 1)], .agg [.lit (.string [97, 100, 100]), .lit (.int .i64 2), .lit (.int .i64 1)], .agg [.lit (.string [115, 117, 98]), .lit (.int .i64 2), .lit (.int .i64 1)], .agg [.lit (.string [109, 117, 108]), .lit (.int .i64 2), .lit (.int .i64 1)], .agg [.lit (.string [97, 110, 100]), .lit (.int .i64 2), .lit (.int .i64 1)], .agg [.lit (.string [111, 114]), .lit (.int .i64 2), .lit (.int .i64 1)], .agg [.lit (.string [120, 111, 114]), .lit (.int .i64 2), .lit (.int .i64 1)], .agg [.lit (.string [115, 104, 108]), .lit (.int .i64 2), .lit (.int .i64 1)], .agg [.lit (.string [115, 104, 114]), .lit (.int .i64 2), .lit (.int .i64 1)], .agg [.lit (.string [115, 97, 114]), .lit (.int .i64 2), .lit (.int .i64 1)], .agg [.lit (.string [117, 100, 105, 118]), .lit (.int .i64 2), .lit (.int .i64 1)], .agg [.lit (.string [117, 114, 101, 109]), .lit (.int .i64 2), .lit (.int .i64 1)], .agg [.lit (.string [101, 113]), .lit (.int .i64 2), .lit (.int .i64 2)], .agg [.lit (.string [117, 108, 116]), .lit (.int .i64 2), .lit (.int .i64 2)], .agg [.lit (.string [115, 108, 116]), .lit (.int .i64 2), .lit (.int .i64 2)], .agg [.lit (.string [105, 116, 101]), .lit (.int .i64 3), .lit (.int .i64 3)], .agg [.lit (.string [99, 111, 110, 99, 97, 116]), .lit (.int .i64 2), .lit (.int .i64 4)], .agg [.lit (.string [101, 120, 116, 114, 97, 99, 116]), .lit (.int .i64 1), .lit (.int .i64 5)], .agg [.lit (.string [122, 101, 120, 116]), .lit (.int .i64 1), .lit (.int .i64 6)], .agg [.lit (.string [115, 101, 120, 116]), .lit (.int .i64 1), .lit (.int .i64 6)], .agg [.lit (.string [108, 111, 97, 100]), .lit (.int .i64 1), .lit (.int .i64 7)]]

/-- 'retargetlaw03.SimplifyTells': WHATEVER THE INPUT: true; the input reads as it did. -/
def simplifyTellsSpec : ChangeSpec := { name := "simplifyTells", fn := fun _ => fun
  | [d] => { results := [.lit (.bool true)], args := [d] }
  | _ => none }
def simplifyTellsRow : OpenClaim := { program := "ytjmppkmacaeahaagreatdoor", sum := "0be0afb8f1def708adb09e922e952cbe846a47637179a1a374c5f060af951e9b", func := "retarget/retargetlaw03.SimplifyTells", spec := "simplifyTells", inPlace := ["internal/bytealg.abigen_runtime_cmpstring"], unfollowed := true, recurses := true, named := ["retarget/term.shapes"], loops := true, apart := false, laid := [("retarget/term.shapes", laid_retarget_term_shapes)] }
def SimplifyTellsSaid : Prop := simplifyTellsRow.holds Tryz.pinned (OpenSpec.ofChange simplifyTellsSpec)

/-- ITS FALSE NEIGHBOUR: 'it returns false'. Refute it at one input. -/
def simplifyTellsWrong : ChangeSpec := { name := "simplifyTells", fn := fun _ => fun
  | [d] => { results := [.lit (.bool false)], args := [d] }
  | _ => none }
def SimplifyTellsWrongFalsely : Prop := simplifyTellsRow.holds Tryz.pinned (OpenSpec.ofChange simplifyTellsWrong)

/-- 'retargetlaw03.SimplifyNames': WHATEVER THE INPUT: true; the input reads as it did. -/
def simplifyNamesSpec : ChangeSpec := { name := "simplifyNames", fn := fun _ => fun
  | [] => { results := [.lit (.bool true)], args := [] }
  | _ => none }
def simplifyNamesRow : OpenClaim := { program := "ytjmppkmacaeahaagreatdoor", sum := "0be0afb8f1def708adb09e922e952cbe846a47637179a1a374c5f060af951e9b", func := "retarget/retargetlaw03.SimplifyNames", spec := "simplifyNames", inPlace := ["internal/bytealg.IndexByteString", "internal/bytealg.IndexString", "internal/bytealg.abigen_runtime_cmpstring", "internal/abi.NoEscape", "internal/bytealg.MakeNoZero"], unfollowed := true, recurses := true, named := ["retarget/term.shapes", "internal/bytealg.MaxLen"], apart := false, laid := [("retarget/term.shapes", laid_retarget_term_shapes)] }
def SimplifyNamesSaid : Prop := simplifyNamesRow.holds Tryz.pinned (OpenSpec.ofChange simplifyNamesSpec)

/-- ITS FALSE NEIGHBOUR: 'it returns false'. Refute it at one input. -/
def simplifyNamesWrong : ChangeSpec := { name := "simplifyNames", fn := fun _ => fun
  | [] => { results := [.lit (.bool false)], args := [] }
  | _ => none }
def SimplifyNamesWrongFalsely : Prop := simplifyNamesRow.holds Tryz.pinned (OpenSpec.ofChange simplifyNamesWrong)

/-- 'retargetlaw03.SimplifyKeeps': WHATEVER THE INPUT: true; the input reads as it did. -/
def simplifyKeepsSpec : ChangeSpec := { name := "simplifyKeeps", fn := fun _ => fun
  | [d1, d2, d3] => { results := [.lit (.bool true)], args := [d1, d2, d3] }
  | _ => none }
def simplifyKeepsRow : OpenClaim := { program := "ytjmppkmacaeahaagreatdoor", sum := "0be0afb8f1def708adb09e922e952cbe846a47637179a1a374c5f060af951e9b", func := "retarget/retargetlaw03.SimplifyKeeps", spec := "simplifyKeeps", inPlace := ["internal/bytealg.IndexByteString", "internal/bytealg.IndexString", "internal/bytealg.abigen_runtime_cmpstring", "internal/abi.NoEscape", "internal/bytealg.MakeNoZero"], unfollowed := true, recurses := true, named := ["retarget/term.shapes", "internal/bytealg.MaxLen"], loops := true, apart := false, laid := [("retarget/term.shapes", laid_retarget_term_shapes)] }
def SimplifyKeepsSaid : Prop := simplifyKeepsRow.holds Tryz.pinned (OpenSpec.ofChange simplifyKeepsSpec)

/-- ITS FALSE NEIGHBOUR: 'it returns false'. Refute it at one input. -/
def simplifyKeepsWrong : ChangeSpec := { name := "simplifyKeeps", fn := fun _ => fun
  | [d1, d2, d3] => { results := [.lit (.bool false)], args := [d1, d2, d3] }
  | _ => none }
def SimplifyKeepsWrongFalsely : Prop := simplifyKeepsRow.holds Tryz.pinned (OpenSpec.ofChange simplifyKeepsWrong)

/-- 'retargetlaw03.SimplifySettles': WHATEVER THE INPUT: true; the input reads as it did. -/
def simplifySettlesSpec : ChangeSpec := { name := "simplifySettles", fn := fun _ => fun
  | [d] => { results := [.lit (.bool true)], args := [d] }
  | _ => none }
def simplifySettlesRow : OpenClaim := { program := "ytjmppkmacaeahaagreatdoor", sum := "0be0afb8f1def708adb09e922e952cbe846a47637179a1a374c5f060af951e9b", func := "retarget/retargetlaw03.SimplifySettles", spec := "simplifySettles", inPlace := ["internal/bytealg.IndexByteString", "internal/bytealg.IndexString", "internal/bytealg.abigen_runtime_cmpstring", "internal/abi.NoEscape", "internal/bytealg.MakeNoZero"], unfollowed := true, recurses := true, named := ["retarget/term.shapes", "internal/bytealg.MaxLen"], loops := true, apart := false, laid := [("retarget/term.shapes", laid_retarget_term_shapes)] }
def SimplifySettlesSaid : Prop := simplifySettlesRow.holds Tryz.pinned (OpenSpec.ofChange simplifySettlesSpec)

/-- ITS FALSE NEIGHBOUR: 'it returns false'. Refute it at one input. -/
def simplifySettlesWrong : ChangeSpec := { name := "simplifySettles", fn := fun _ => fun
  | [d] => { results := [.lit (.bool false)], args := [d] }
  | _ => none }
def SimplifySettlesWrongFalsely : Prop := simplifySettlesRow.holds Tryz.pinned (OpenSpec.ofChange simplifySettlesWrong)

/-- 'retargetlaw03.SimplifyLaws': WHATEVER THE INPUT: true; the input reads as it did. -/
def simplifyLawsSpec : ChangeSpec := { name := "simplifyLaws", fn := fun _ => fun
  | [d] => { results := [.lit (.bool true)], args := [d] }
  | _ => none }
def simplifyLawsRow : OpenClaim := { program := "ytjmppkmacaeahaagreatdoor", sum := "0be0afb8f1def708adb09e922e952cbe846a47637179a1a374c5f060af951e9b", func := "retarget/retargetlaw03.SimplifyLaws", spec := "simplifyLaws", inPlace := ["internal/bytealg.IndexByteString", "internal/bytealg.IndexString", "internal/bytealg.abigen_runtime_cmpstring", "internal/abi.NoEscape", "internal/bytealg.MakeNoZero"], unfollowed := true, recurses := true, named := ["retarget/term.shapes", "internal/bytealg.MaxLen"], loops := true, apart := false, laid := [("retarget/term.shapes", laid_retarget_term_shapes)] }
def SimplifyLawsSaid : Prop := simplifyLawsRow.holds Tryz.pinned (OpenSpec.ofChange simplifyLawsSpec)

/-- ITS FALSE NEIGHBOUR: 'it returns false'. Refute it at one input. -/
def simplifyLawsWrong : ChangeSpec := { name := "simplifyLaws", fn := fun _ => fun
  | [d] => { results := [.lit (.bool false)], args := [d] }
  | _ => none }
def SimplifyLawsWrongFalsely : Prop := simplifyLawsRow.holds Tryz.pinned (OpenSpec.ofChange simplifyLawsWrong)

/-- 'retargetlaw03.SimplifySmaller': WHATEVER THE INPUT: true; the input reads as it did. -/
def simplifySmallerSpec : ChangeSpec := { name := "simplifySmaller", fn := fun _ => fun
  | [d] => { results := [.lit (.bool true)], args := [d] }
  | _ => none }
def simplifySmallerRow : OpenClaim := { program := "ytjmppkmacaeahaagreatdoor", sum := "0be0afb8f1def708adb09e922e952cbe846a47637179a1a374c5f060af951e9b", func := "retarget/retargetlaw03.SimplifySmaller", spec := "simplifySmaller", inPlace := ["internal/bytealg.IndexByteString", "internal/bytealg.IndexString", "internal/bytealg.abigen_runtime_cmpstring", "internal/abi.NoEscape", "internal/bytealg.MakeNoZero"], unfollowed := true, recurses := true, named := ["retarget/term.shapes", "internal/bytealg.MaxLen"], loops := true, apart := false, laid := [("retarget/term.shapes", laid_retarget_term_shapes)] }
def SimplifySmallerSaid : Prop := simplifySmallerRow.holds Tryz.pinned (OpenSpec.ofChange simplifySmallerSpec)

/-- ITS FALSE NEIGHBOUR: 'it returns false'. Refute it at one input. -/
def simplifySmallerWrong : ChangeSpec := { name := "simplifySmaller", fn := fun _ => fun
  | [d] => { results := [.lit (.bool false)], args := [d] }
  | _ => none }
def SimplifySmallerWrongFalsely : Prop := simplifySmallerRow.holds Tryz.pinned (OpenSpec.ofChange simplifySmallerWrong)

/-- 'retargetlaw03.SimplifyFolds': WHATEVER THE INPUT: true; the input reads as it did. -/
def simplifyFoldsSpec : ChangeSpec := { name := "simplifyFolds", fn := fun _ => fun
  | [d1, d2] => { results := [.lit (.bool true)], args := [d1, d2] }
  | _ => none }
def simplifyFoldsRow : OpenClaim := { program := "ytjmppkmacaeahaagreatdoor", sum := "0be0afb8f1def708adb09e922e952cbe846a47637179a1a374c5f060af951e9b", func := "retarget/retargetlaw03.SimplifyFolds", spec := "simplifyFolds", inPlace := ["internal/bytealg.IndexByteString", "internal/bytealg.IndexString", "internal/bytealg.abigen_runtime_cmpstring", "internal/abi.NoEscape", "internal/bytealg.MakeNoZero"], unfollowed := true, recurses := true, named := ["retarget/term.shapes", "internal/bytealg.MaxLen"], loops := true, apart := false, laid := [("retarget/term.shapes", laid_retarget_term_shapes)] }
def SimplifyFoldsSaid : Prop := simplifyFoldsRow.holds Tryz.pinned (OpenSpec.ofChange simplifyFoldsSpec)

/-- ITS FALSE NEIGHBOUR: 'it returns false'. Refute it at one input. -/
def simplifyFoldsWrong : ChangeSpec := { name := "simplifyFolds", fn := fun _ => fun
  | [d1, d2] => { results := [.lit (.bool false)], args := [d1, d2] }
  | _ => none }
def SimplifyFoldsWrongFalsely : Prop := simplifyFoldsRow.holds Tryz.pinned (OpenSpec.ofChange simplifyFoldsWrong)

/- THE SECOND FORM. 'bulk': how many values and letters a reading holds, each counted each time it is reached (what is shared counts as often as it is met; a slice's spare places count too). A statement '..UptoSaid' is the law's where the arguments, and the package variables that the reading takes, are together of bulk at most 1048576: NARROWER than '..Said'. Prove '..Said' where nothing that the law and all that it calls make is longer than what came in: it says more and counts as full. Else prove '..UptoSaid'. A law counts once. -/
mutual
def uptoBulk {H : Type} : DataW H → Nat
  | .lit (.string bytes) => bytes.length + 1
  | .lit _ => 1
  | .nil => 1
  | .ptr d => uptoBulk d + 1
  | .slice elems spare => uptoBulkAll elems + uptoBulkAll spare + 1
  | .agg parts => uptoBulkAll parts + 1
  | .iface _ d => uptoBulk d + 1
  | .map entries => uptoBulkEntries entries + 1
  | .held _ => 1
def uptoBulkAll {H : Type} : List (DataW H) → Nat
  | [] => 0
  | d :: r => uptoBulk d + uptoBulkAll r
def uptoBulkEntries {H : Type} : List (Lit × DataW H) → Nat
  | [] => 0
  | x :: r => uptoBulkEntry x + uptoBulkEntries r
def uptoBulkEntry {H : Type} : Lit × DataW H → Nat
  | (.string bytes, d) => bytes.length + uptoBulk d + 1
  | (_, d) => uptoBulk d + 1
 end
def uptoSmall : (H : Type) → List (DataW H) → Bool := fun _ ds => decide (uptoBulkAll ds ≤ 1048576)
def OpenSpec.upto (s : _root_.Go.ChangeSpec) : _root_.Go.OpenSpec := { _root_.Go.OpenSpec.ofChange s with cond := some uptoSmall }

/-- 'retargetlaw03.SimplifyTells', WHERE WHAT IT READS IS OF BULK AT MOST 1048576: true; the input reads as it did. -/
def simplifyTellsUptoRow : OpenClaim := { program := "ytjmppkmacaeahaagreatdoor", sum := "0be0afb8f1def708adb09e922e952cbe846a47637179a1a374c5f060af951e9b", func := "retarget/retargetlaw03.SimplifyTells", spec := "simplifyTells", inPlace := ["internal/bytealg.abigen_runtime_cmpstring"], unfollowed := true, recurses := true, named := ["retarget/term.shapes"], loops := true, apart := false, laid := [("retarget/term.shapes", laid_retarget_term_shapes)], narrowed := true }
def SimplifyTellsUptoSaid : Prop := simplifyTellsUptoRow.holds Tryz.pinned (OpenSpec.upto simplifyTellsSpec)

/-- 'retargetlaw03.SimplifyNames', WHERE WHAT IT READS IS OF BULK AT MOST 1048576: true; the input reads as it did. -/
def simplifyNamesUptoRow : OpenClaim := { program := "ytjmppkmacaeahaagreatdoor", sum := "0be0afb8f1def708adb09e922e952cbe846a47637179a1a374c5f060af951e9b", func := "retarget/retargetlaw03.SimplifyNames", spec := "simplifyNames", inPlace := ["internal/bytealg.IndexByteString", "internal/bytealg.IndexString", "internal/bytealg.abigen_runtime_cmpstring", "internal/abi.NoEscape", "internal/bytealg.MakeNoZero"], unfollowed := true, recurses := true, named := ["retarget/term.shapes", "internal/bytealg.MaxLen"], apart := false, laid := [("retarget/term.shapes", laid_retarget_term_shapes)], narrowed := true }
def SimplifyNamesUptoSaid : Prop := simplifyNamesUptoRow.holds Tryz.pinned (OpenSpec.upto simplifyNamesSpec)

/-- 'retargetlaw03.SimplifyKeeps', WHERE WHAT IT READS IS OF BULK AT MOST 1048576: true; the input reads as it did. -/
def simplifyKeepsUptoRow : OpenClaim := { program := "ytjmppkmacaeahaagreatdoor", sum := "0be0afb8f1def708adb09e922e952cbe846a47637179a1a374c5f060af951e9b", func := "retarget/retargetlaw03.SimplifyKeeps", spec := "simplifyKeeps", inPlace := ["internal/bytealg.IndexByteString", "internal/bytealg.IndexString", "internal/bytealg.abigen_runtime_cmpstring", "internal/abi.NoEscape", "internal/bytealg.MakeNoZero"], unfollowed := true, recurses := true, named := ["retarget/term.shapes", "internal/bytealg.MaxLen"], loops := true, apart := false, laid := [("retarget/term.shapes", laid_retarget_term_shapes)], narrowed := true }
def SimplifyKeepsUptoSaid : Prop := simplifyKeepsUptoRow.holds Tryz.pinned (OpenSpec.upto simplifyKeepsSpec)

/-- 'retargetlaw03.SimplifySettles', WHERE WHAT IT READS IS OF BULK AT MOST 1048576: true; the input reads as it did. -/
def simplifySettlesUptoRow : OpenClaim := { program := "ytjmppkmacaeahaagreatdoor", sum := "0be0afb8f1def708adb09e922e952cbe846a47637179a1a374c5f060af951e9b", func := "retarget/retargetlaw03.SimplifySettles", spec := "simplifySettles", inPlace := ["internal/bytealg.IndexByteString", "internal/bytealg.IndexString", "internal/bytealg.abigen_runtime_cmpstring", "internal/abi.NoEscape", "internal/bytealg.MakeNoZero"], unfollowed := true, recurses := true, named := ["retarget/term.shapes", "internal/bytealg.MaxLen"], loops := true, apart := false, laid := [("retarget/term.shapes", laid_retarget_term_shapes)], narrowed := true }
def SimplifySettlesUptoSaid : Prop := simplifySettlesUptoRow.holds Tryz.pinned (OpenSpec.upto simplifySettlesSpec)

/-- 'retargetlaw03.SimplifyLaws', WHERE WHAT IT READS IS OF BULK AT MOST 1048576: true; the input reads as it did. -/
def simplifyLawsUptoRow : OpenClaim := { program := "ytjmppkmacaeahaagreatdoor", sum := "0be0afb8f1def708adb09e922e952cbe846a47637179a1a374c5f060af951e9b", func := "retarget/retargetlaw03.SimplifyLaws", spec := "simplifyLaws", inPlace := ["internal/bytealg.IndexByteString", "internal/bytealg.IndexString", "internal/bytealg.abigen_runtime_cmpstring", "internal/abi.NoEscape", "internal/bytealg.MakeNoZero"], unfollowed := true, recurses := true, named := ["retarget/term.shapes", "internal/bytealg.MaxLen"], loops := true, apart := false, laid := [("retarget/term.shapes", laid_retarget_term_shapes)], narrowed := true }
def SimplifyLawsUptoSaid : Prop := simplifyLawsUptoRow.holds Tryz.pinned (OpenSpec.upto simplifyLawsSpec)

/-- 'retargetlaw03.SimplifySmaller', WHERE WHAT IT READS IS OF BULK AT MOST 1048576: true; the input reads as it did. -/
def simplifySmallerUptoRow : OpenClaim := { program := "ytjmppkmacaeahaagreatdoor", sum := "0be0afb8f1def708adb09e922e952cbe846a47637179a1a374c5f060af951e9b", func := "retarget/retargetlaw03.SimplifySmaller", spec := "simplifySmaller", inPlace := ["internal/bytealg.IndexByteString", "internal/bytealg.IndexString", "internal/bytealg.abigen_runtime_cmpstring", "internal/abi.NoEscape", "internal/bytealg.MakeNoZero"], unfollowed := true, recurses := true, named := ["retarget/term.shapes", "internal/bytealg.MaxLen"], loops := true, apart := false, laid := [("retarget/term.shapes", laid_retarget_term_shapes)], narrowed := true }
def SimplifySmallerUptoSaid : Prop := simplifySmallerUptoRow.holds Tryz.pinned (OpenSpec.upto simplifySmallerSpec)

/-- 'retargetlaw03.SimplifyFolds', WHERE WHAT IT READS IS OF BULK AT MOST 1048576: true; the input reads as it did. -/
def simplifyFoldsUptoRow : OpenClaim := { program := "ytjmppkmacaeahaagreatdoor", sum := "0be0afb8f1def708adb09e922e952cbe846a47637179a1a374c5f060af951e9b", func := "retarget/retargetlaw03.SimplifyFolds", spec := "simplifyFolds", inPlace := ["internal/bytealg.IndexByteString", "internal/bytealg.IndexString", "internal/bytealg.abigen_runtime_cmpstring", "internal/abi.NoEscape", "internal/bytealg.MakeNoZero"], unfollowed := true, recurses := true, named := ["retarget/term.shapes", "internal/bytealg.MaxLen"], loops := true, apart := false, laid := [("retarget/term.shapes", laid_retarget_term_shapes)], narrowed := true }
def SimplifyFoldsUptoSaid : Prop := simplifyFoldsUptoRow.holds Tryz.pinned (OpenSpec.upto simplifyFoldsSpec)

end Rows
end Go.Proofs.YtjmppkmacaeahaaGreatDoor
