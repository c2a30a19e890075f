/- It is proved that BlastRuns returns true for every circuit, every list of bits and every list of bindings, and that its arguments read behind the call as before. Conditions: none beyond those of the given row ('Said', for arguments of any size). -/
import Derived.Test.YthjgmhpgplhkgaaT25
import Derived.Test.YthjgmhpgplhkgaaFIView
import Derived.Test.YthjgmhpgplhkgaaRows
import Derived.ProofKit
set_option linter.unusedSimpArgs false
set_option linter.unusedVariables false
namespace Go.Proofs.Ythjgmhpgplhkgaa.blastRuns
open Go.ChangeShapes Go.WideShapes Go.ChangeAt Go.RowKit Go.FI
open Go.Proofs.Ythjgmhpgplhkgaa.Fi

theorem own : ownKnob Try.prog.godebug = none := by kernel_rfl
theorem laid : laidOutB Try.prog = true := by kernel_rfl
def types : List TypeId := [26, 3, 22, 23, 24, 9, 52, 54, 38, 4, 39, 59, 57]
theorem clo : closed Try.prog types = true := by kernel_rfl

/-- A circuit that is handed in. -/
theorem circ {n : Nat} {cs : List FV} (h1 : OfT Try.prog n 26 cs) : ∃ (ins : In) (gs : Ga) (outs : List Int), ins.length ≤ maxLen ∧ mkE Try.prog 26 cs = circV false false false ins gs outs := by
  obtain ⟨_, f1⟩ := h1.field 0 (u := 22) (off := 0) (k := 1) (by kernel_rfl)
  obtain ⟨_, f2⟩ := h1.field 1 (u := 23) (off := 1) (k := 1) (by kernel_rfl)
  obtain ⟨_, f3⟩ := h1.field 2 (u := 24) (off := 2) (k := 1) (by kernel_rfl)
  have hl := h1.len (k := 3) (by kernel_rfl)
  match cs, hl with
  | [x, y, z], _ =>
    obtain ⟨ins, e1, l1, _⟩ := f1.pairs (e := 52) (u := 9) (v := 3) (f := .str) (g := .int .i64) (ga := fun _ => True) (gb := fun _ => True) (by kernel_rfl) (by kernel_rfl) (by kernel_rfl) (by kernel_rfl) (by kernel_rfl)
      (fun m c hc => by obtain ⟨s, e, _⟩ := hc.str (by kernel_rfl); exact ⟨s, e, trivial⟩) (fun m c hc => by obtain ⟨s, e, _⟩ := hc.int (k := .i64) (by kernel_rfl); exact ⟨s, e, trivial⟩)
    obtain ⟨gs, e2, l2, _⟩ := f2.pairs (e := 54) (u := 3) (v := 3) (f := .int .i64) (g := .int .i64) (ga := fun _ => True) (gb := fun _ => True) (by kernel_rfl) (by kernel_rfl) (by kernel_rfl) (by kernel_rfl) (by kernel_rfl)
      (fun m c hc => by obtain ⟨s, e, _⟩ := hc.int (k := .i64) (by kernel_rfl); exact ⟨s, e, trivial⟩) (fun m c hc => by obtain ⟨s, e, _⟩ := hc.int (k := .i64) (by kernel_rfl); exact ⟨s, e, trivial⟩)
    obtain ⟨outs, e3, l3, _⟩ := f3.ints (e := 3) (k := .i64) (by kernel_rfl) (by kernel_rfl) (by kernel_rfl)
    simp at e1 e2 e3
    refine ⟨ins, gs, outs, l1, ?_⟩
    rw [mkE_agg (by kernel_rfl), e1, e2, e3]
    rfl

/-- Bindings that are handed in. -/
theorem binds {n : Nat} {cs : List FV} (h : OfT Try.prog n 39 cs) : ∃ env : Env, mkE Try.prog 39 cs = .lst false (env.map bdV) ∧ ∀ p ∈ env, 0 ≤ p.2.2 ∧ p.2.2 ≤ 18446744073709551615 := by
  obtain ⟨m, css, rfl, h2, h3⟩ := h.slice (e := 59) (by kernel_rfl)
  obtain ⟨l, h4, h5, h6⟩ := list_view (css := css) (mk := mkE Try.prog 59) (enc := bdV) (good := fun p => 0 ≤ p.2.2 ∧ p.2.2 ≤ 18446744073709551615) fun c hc => by
    have hc' := h3 c hc
    have hlen := hc'.len (k := 3) (by kernel_rfl)
    obtain ⟨_, f0⟩ := hc'.field 0 (u := 9) (off := 0) (k := 1) (by kernel_rfl)
    obtain ⟨_, f1⟩ := hc'.field 1 (u := 3) (off := 1) (k := 1) (by kernel_rfl)
    obtain ⟨_, f2⟩ := hc'.field 2 (u := 57) (off := 2) (k := 1) (by kernel_rfl)
    match c, hlen with
    | [x, y, z], _ =>
      obtain ⟨s, e1, _⟩ := f0.str (by kernel_rfl)
      obtain ⟨w, e2, _⟩ := f1.int (k := .i64) (by kernel_rfl)
      obtain ⟨b, e3, b1, b2⟩ := f2.int (k := .u64) (by kernel_rfl)
      simp at e1 e2 e3
      refine ⟨(s, w, b), by rw [mkE_agg (by kernel_rfl), e1, e2, e3]; rfl, ?_⟩
      simp [IntKind.min, IntKind.max, IntKind.signed, IntKind.bits] at b1 b2
      exact ⟨b1, by show b ≤ _; omega⟩
  exact ⟨l, by rw [mkE_one (by kernel_rfl), h4], h6⟩

theorem contract (H : Type) (enc : TypeId × Value → H) (W : World) (base : Nat) (args : Array Value) (ds gs : List (DataW H)) (before : List MemPlace)
    (hval : ∀ (j : Nat) t v, Try.f4.params[j]? = some t → args[j]? = some v → Value.okWide Try.prog W .any base t v)
    (hW : DataW.Whole enc Try.prog Try.f4.params.toList Rows.blastRunsSpec.vars false W args.toList ds gs before) :
    Calls Try.prog 4 args W fun e W' => ∃ v, e = .returned v ∧ Rows.blastRunsSpec.post enc Try.prog Try.f4 false true false false W args v W' := by
  refine contract_true (ts := types) (tb := 4) clo (by kernel_rfl) laid (by kernel_rfl) (by kernel_rfl) (by kernel_rfl) rfl ?_ ?_ hval hW
  · intro ds hd
    rw [Try.params4] at hd
    match ds, hd with
    | [a, b, c], _ => exact ⟨rfl, rfl, rfl⟩
  · intro fs hfs
    rw [Try.params4] at hfs
    match fs, hfs with
    | [_, _, _], ⟨⟨n, cs, h1, rfl⟩, ⟨m, cs', h2, rfl⟩, ⟨k, cs'', h3, rfl⟩, _⟩ =>
      obtain ⟨ins, gs, outs, hi, e⟩ := circ h1
      obtain ⟨inb, rfl, _⟩ := h2.bools (e := 4) (by kernel_rfl) (by kernel_rfl) (by kernel_rfl)
      obtain ⟨env, e', hx⟩ := binds h3
      rw [e, e', mkE_one (by kernel_rfl)]
      exact isoCall_of_lim tab tg4 rfl (law2_spec inb env (by simp only [maxLen] at hi; omega) (fun i => by
        rw [List.getD_eq_getElem?_getD]
        cases hg : env[i]? with
        | none => simp
        | some p => exact hx p (List.mem_of_getElem? hg)) [] 0)

set_option maxRecDepth 100000 in
theorem lifted (os : Os) (started : os.Started) (H : Type) (enc : TypeId × Value → H) :
    ReturnsInHanded {} Try.checked os 4 .any (Rows.blastRunsSpec.pre6 enc Try.prog Try.f4 Rows.blastRunsRow.domain false) (Rows.blastRunsSpec.post enc Try.prog Try.f4 false true false false) := by
  refine returnsInHanded_of_change (C := Try.checked) own started (by kernel_rfl) Try.func4
    (ChangeSpec.witness6 (enc := enc) (C := Try.checked) false ⟨#[], #[.agg #[.slice none 0 0, .slice none 0 0, .slice none 0 0], .slice none 0 0, .slice none 0 0], []⟩ 8 (by kernel_rfl) (by kernel_rfl) (by kernel_rfl) (by kernel_rfl)) ?_
  intro W base args ds gs before hval hW _ _
  exact contract H enc W base args ds gs before hval hW

theorem over : Rows.blastRunsRow.holds Try.pinned (OpenSpec.ofChange Rows.blastRunsSpec) :=
  OpenClaim.holds_of_wide 4 Try.f4 rfl rfl rfl rfl rfl rfl rfl ⟨rfl, rfl, rfl, rfl, rfl⟩ rfl rfl rfl rfl rfl (by kernel_rfl) Try.func4 (by kernel_rfl)
    (of_decide_eq_true (by kernel_rfl)) (by unfold Func.isWrapper; first | (rw [if_pos (by decide +kernel)]; kernel_rfl) | (rw [if_neg (by decide +kernel)]; exact ⟨rfl, rfl⟩))
    (fun os started H enc _ => lifted os started H enc)

theorem proved : Rows.BlastRunsSaid := over
#print axioms proved
end Go.Proofs.Ythjgmhpgplhkgaa.blastRuns

