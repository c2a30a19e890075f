/- It is proved that SolveNames returns true. Conditions: none beyond those of the given row ('Said'). -/
import Derived.Test.YtmimelknjfgphaaCSolveNamesb
import Derived.Test.YtmimelknjfgphaaFIView
import Derived.Test.YtmimelknjfgphaaRows
import Derived.ProofKit
set_option linter.all false
set_option linter.unusedSimpArgs false
set_option linter.unusedVariables false
set_option linter.unusedSectionVars false
namespace Go.Proofs.Ytmimelknjfgphaa.solveNames
open Go.ChangeShapes Go.WideShapes Go.ChangeAt Go.RowKit Go.FI
open Go.Proofs.Ytmimelknjfgphaa.Fi

theorem own : ownKnob Try.prog.godebug = none := by kernel_rfl
theorem laid : laidOutB Try.prog = true := by kernel_rfl
theorem clo : closed Try.prog [] = true := by kernel_rfl
theorem glok (g : Gh) (w : World) : GlOk g w := fun k cs h => absurd h (by show ¬ (glf k cs = true); simp [glf])

theorem contract (H : Type) (enc : TypeId × Value → H) (W : World) (base : Nat) (args : Array Value) (ds gs : List (DataW H)) (before : List MemPlace)
    (hval : ∀ (j : Nat) t v, Try.f8.params[j]? = some t → args[j]? = some v → Value.okWide Try.prog W .any base t v)
    (hW : DataW.Whole enc Try.prog Try.f8.params.toList Rows.solveNamesSpec.vars false W args.toList ds gs before) :
    Calls Try.prog 8 args W fun e W' => ∃ v, e = .returned v ∧ Rows.solveNamesSpec.post enc Try.prog Try.f8 false true false false W args v W' := by
  refine contract_true (ts := []) (tb := 4) clo (by kernel_rfl) laid (by kernel_rfl) (by kernel_rfl) (by kernel_rfl) rfl ?_ ?_ (glok _ _) hval hW
  · intro ds hd
    have hd : ds.length = 0 := hd
    match ds, hd with
    | [], _ => exact ⟨rfl, rfl, rfl⟩
  · intro fs hfs
    rw [Try.params8] at hfs
    match fs, hfs with
    | [], _ => exact law_iso

set_option maxRecDepth 100000 in
theorem lifted (os : Os) (started : os.Started) (H : Type) (enc : TypeId × Value → H) :
    ReturnsInHanded {} Try.checked os 8 .any (Rows.solveNamesSpec.pre6 enc Try.prog Try.f8 Rows.solveNamesRow.domain false) (Rows.solveNamesSpec.post enc Try.prog Try.f8 false true false false) := by
  refine returnsInHanded_of_change (C := Try.checked) own started (by kernel_rfl) Try.func8
    (ChangeSpec.witness6 (enc := enc) (C := Try.checked) false ⟨#[], #[], []⟩ 8 (by kernel_rfl) (by kernel_rfl) (by kernel_rfl) (by kernel_rfl)) ?_
  intro W base args ds gs before hval hW _ _
  exact contract H enc W base args ds gs before hval hW

theorem over : Rows.solveNamesRow.holds Try.pinned (OpenSpec.ofChange Rows.solveNamesSpec) :=
  OpenClaim.holds_of_wide 8 Try.f8 rfl rfl rfl rfl rfl rfl rfl ⟨rfl, rfl, rfl, rfl, rfl⟩ rfl rfl rfl rfl rfl (by kernel_rfl) Try.func8 (by kernel_rfl)
    (of_decide_eq_true (by kernel_rfl)) (by unfold Func.isWrapper; first | (rw [if_pos (by decide +kernel)]; kernel_rfl) | (rw [if_neg (by decide +kernel)]; exact ⟨rfl, rfl⟩))
    (fun os started H enc _ => lifted os started H enc)

theorem proved : Rows.SolveNamesSaid := over
#print axioms proved
end Go.Proofs.Ytmimelknjfgphaa.solveNames
