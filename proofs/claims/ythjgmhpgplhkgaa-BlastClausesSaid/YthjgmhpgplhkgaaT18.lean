/- It is proved that BlastClauses returns true for every circuit and every index of an output, and that its arguments read behind the call as before. Conditions: none beyond those of the given row ('Said', for arguments of any size). -/
import Derived.Test.YthjgmhpgplhkgaaT17
import Derived.Test.YthjgmhpgplhkgaaFIView
import Derived.Test.YthjgmhpgplhkgaaRows
import Derived.ProofKit
set_option linter.unusedSimpArgs false
set_option linter.unusedVariables false
namespace Go.Proofs.Ythjgmhpgplhkgaa.blastClauses
open Go.ChangeShapes Go.WideShapes Go.ChangeAt Go.RowKit Go.FI
open Go.Proofs.Ythjgmhpgplhkgaa.Fi

theorem own : ownKnob Try.prog.godebug = none := by kernel_rfl
theorem laid : laidOutB Try.prog = true := by kernel_rfl
def types : List TypeId := [26, 3, 22, 23, 24, 9, 52, 54]
theorem clo : closed Try.prog types = true := by kernel_rfl

/-- A circuit that is handed in. -/
theorem circ {n : Nat} {cs : List FV} (h1 : OfT Try.prog n 26 cs) : ∃ (ins : In) (gs : Ga) (outs : List Int), ins.length ≤ maxLen ∧ mkE Try.prog 26 cs = circV false false false ins gs outs := by
  obtain ⟨_, f1⟩ := h1.field 0 (u := 22) (off := 0) (k := 1) (by kernel_rfl)
  obtain ⟨_, f2⟩ := h1.field 1 (u := 23) (off := 1) (k := 1) (by kernel_rfl)
  obtain ⟨_, f3⟩ := h1.field 2 (u := 24) (off := 2) (k := 1) (by kernel_rfl)
  have hl := h1.len (k := 3) (by kernel_rfl)
  match cs, hl with
  | [x, y, z], _ =>
    obtain ⟨ins, e1, l1, _⟩ := f1.pairs (e := 52) (u := 9) (v := 3) (f := .str) (g := .int .i64) (ga := fun _ => True) (gb := fun _ => True) (by kernel_rfl) (by kernel_rfl) (by kernel_rfl) (by kernel_rfl) (by kernel_rfl)
      (fun m c hc => by obtain ⟨s, e, _⟩ := hc.str (by kernel_rfl); exact ⟨s, e, trivial⟩) (fun m c hc => by obtain ⟨s, e, _⟩ := hc.int (k := .i64) (by kernel_rfl); exact ⟨s, e, trivial⟩)
    obtain ⟨gs, e2, l2, _⟩ := f2.pairs (e := 54) (u := 3) (v := 3) (f := .int .i64) (g := .int .i64) (ga := fun _ => True) (gb := fun _ => True) (by kernel_rfl) (by kernel_rfl) (by kernel_rfl) (by kernel_rfl) (by kernel_rfl)
      (fun m c hc => by obtain ⟨s, e, _⟩ := hc.int (k := .i64) (by kernel_rfl); exact ⟨s, e, trivial⟩) (fun m c hc => by obtain ⟨s, e, _⟩ := hc.int (k := .i64) (by kernel_rfl); exact ⟨s, e, trivial⟩)
    obtain ⟨outs, e3, l3, _⟩ := f3.ints (e := 3) (k := .i64) (by kernel_rfl) (by kernel_rfl) (by kernel_rfl)
    simp at e1 e2 e3
    refine ⟨ins, gs, outs, l1, ?_⟩
    rw [mkE_agg (by kernel_rfl), e1, e2, e3]
    rfl

theorem contract (H : Type) (enc : TypeId × Value → H) (W : World) (base : Nat) (args : Array Value) (ds gs : List (DataW H)) (before : List MemPlace)
    (hval : ∀ (j : Nat) t v, Try.f3.params[j]? = some t → args[j]? = some v → Value.okWide Try.prog W .any base t v)
    (hW : DataW.Whole enc Try.prog Try.f3.params.toList Rows.blastClausesSpec.vars false W args.toList ds gs before) :
    Calls Try.prog 3 args W fun e W' => ∃ v, e = .returned v ∧ Rows.blastClausesSpec.post enc Try.prog Try.f3 false true false false W args v W' := by
  refine contract_true (ts := types) (tb := 4) clo (by kernel_rfl) laid (by kernel_rfl) (by kernel_rfl) (by kernel_rfl) rfl ?_ ?_ hval hW
  · intro ds hd
    rw [Try.params3] at hd
    match ds, hd with
    | [a, b], _ => exact ⟨rfl, rfl, rfl⟩
  · intro fs hfs
    rw [Try.params3] at hfs
    match fs, hfs with
    | [_, _], ⟨⟨n, cs, h1, rfl⟩, ⟨m, cs', h2, rfl⟩, _⟩ =>
      obtain ⟨o, rfl, _⟩ := h2.int (k := .i64) (by kernel_rfl)
      obtain ⟨ins, gs, outs, hi, e⟩ := circ h1
      rw [e, mkE_one (by kernel_rfl)]
      exact isoCall_of_lim tab tg3 rfl (law_spec o (by simp only [maxLen] at hi; omega) [] 0)

set_option maxRecDepth 100000 in
theorem lifted (os : Os) (started : os.Started) (H : Type) (enc : TypeId × Value → H) :
    ReturnsInHanded {} Try.checked os 3 .any (Rows.blastClausesSpec.pre6 enc Try.prog Try.f3 Rows.blastClausesRow.domain false) (Rows.blastClausesSpec.post enc Try.prog Try.f3 false true false false) := by
  refine returnsInHanded_of_change (C := Try.checked) own started (by kernel_rfl) Try.func3
    (ChangeSpec.witness6 (enc := enc) (C := Try.checked) false ⟨#[], #[.agg #[.slice none 0 0, .slice none 0 0, .slice none 0 0], .int .i64 0], []⟩ 8 (by kernel_rfl) (by kernel_rfl) (by kernel_rfl) (by kernel_rfl)) ?_
  intro W base args ds gs before hval hW _ _
  exact contract H enc W base args ds gs before hval hW

theorem over : Rows.blastClausesRow.holds Try.pinned (OpenSpec.ofChange Rows.blastClausesSpec) :=
  OpenClaim.holds_of_wide 3 Try.f3 rfl rfl rfl rfl rfl rfl rfl ⟨rfl, rfl, rfl, rfl, rfl⟩ rfl rfl rfl rfl rfl (by kernel_rfl) Try.func3 (by kernel_rfl)
    (of_decide_eq_true (by kernel_rfl)) (by unfold Func.isWrapper; first | (rw [if_pos (by decide +kernel)]; kernel_rfl) | (rw [if_neg (by decide +kernel)]; exact ⟨rfl, rfl⟩))
    (fun os started H enc _ => lifted os started H enc)

theorem proved : Rows.BlastClausesSaid := over
#print axioms proved
end Go.Proofs.Ythjgmhpgplhkgaa.blastClauses

