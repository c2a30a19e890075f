/- It is proved that TermChecks returns true for every argument, and that the arguments read behind the call as before. Conditions: those of the given card: the listed variable holds what the program's text lays there. -/
import Derived.Test.YtkobnfjeehnhlaaDoorFILaid
import Derived.Test.YtkobnfjeehnhlaaDoorFIView
import Derived.Test.YtkobnfjeehnhlaaDoorFITv
import Derived.Test.YtkobnfjeehnhlaaDoorP5
import Derived.Test.YtkobnfjeehnhlaaDoorCards
import Derived.Test.YtkobnfjeehnhlaaDoorTie
import Derived.SevenTiedAt
import Derived.ProofKit
import Derived.LaidMore
import Derived.OpenShut
import Derived.Stop.Joined
set_option linter.all false
set_option linter.unusedSimpArgs false
set_option linter.unusedVariables false
set_option linter.unusedSectionVars false
namespace Go.Proofs.YtkobnfjeehnhlaaDoor.termChecks
open Go Go.ChangeShapes Go.WideShapes Go.ChangeAt Go.RowKit Go.FI Go.WideMaps Go.WideElems
open Go.Proofs.YtkobnfjeehnhlaaDoor.Fi

abbrev laid : List (String × DataW Unit) := [("retarget/term.shapes", Rows.laid_retarget_term_shapes)]
theorem own : ownKnob Tryd.prog.godebug = none := by kernel_rfl
theorem laidOut : laidOutB Tryd.prog = true := by kernel_rfl
theorem clo : closed Tryd.prog [25, 5, 3, 22, 9, 23] = true := by kernel_rfl
theorem cloF : closedF Tryd.prog [89, 81, 9, 3] = true := by kernel_rfl
theorem gN : Tryd.prog.globalNamed "retarget/term.shapes" = some 0 := by kernel_rfl
theorem tN : (Tryd.prog.globals[0]?).map (·.type) = some 89 := by kernel_rfl
theorem fN : flatD (H := Unit) Rows.laid_retarget_term_shapes = some gl0 := by kernel_rfl

theorem door_met (os : Os) (args : Array Value) : laidMetH Tryd.prog laid ((World.doorLaid Tryd.prog 400 os).forCall (fun _ _ => 0) ⟨#[], args, []⟩).memory :=
  laidMetH_of_parts3 (fuel := 12) (laidMet_of_run' 12 (by kernel_rfl) (by kernel_rfl)) (by kernel_rfl) (by kernel_rfl)

set_option maxRecDepth 1000000 in
theorem glok {W : World} (h : laidMetH Tryd.prog laid W) : GlOk ⟨fun _ => none, (· < W.heap.size)⟩ W := by
  rw [MakeChecks.laidMetH_plain _ _ _ (by kernel_rfl)] at h
  obtain ⟨ps, ⟨g0, t0, cs0, f0, p0, q0, hg0, ht0, hv0, hd0, _, _⟩, _, _⟩ := h
  obtain rfl := Option.some.inj (gN.symm.trans hg0)
  obtain rfl := Option.some.inj (tN.symm.trans ht0)
  have hr : RL ⟨fun _ => none, (· < W.heap.size)⟩ W gl0 cs0.toList := by
    have hv := flat_opens (g := ⟨fun _ => none, (· < W.heap.size)⟩) cloF f0 89 cs0.toList _ p0 (by decide) hd0 gl0
    exact hv fN
  intro k cs hk
  have hk : glf k cs = true := hk
  unfold glf at hk
  simp only [Bool.and_eq_true, beq_iff_eq] at hk
  obtain ⟨rfl, hk⟩ := hk
  have hcs := eqvs_eq hk
  subst hcs
  have hcell : ∀ j, W.cell? ⟨0, j, none⟩ = cs0[j]? := fun j => World.var?_cell hg0 hv0 j
  have hne : gl0 ≠ [] := by
    intro e
    have h1 : (gl0).isEmpty = true := by rw [e]; rfl
    have h2 : (gl0).isEmpty = false := by kernel_rfl
    rw [h1] at h2; cases h2
  have hpos : 0 < cs0.toList.length := by
    rw [← hr.length]; exact List.length_pos_iff.2 hne
  have h0 : W.cell? ⟨0, 0, none⟩ = some (cs0.toList[0]) := by
    rw [hcell, ← Array.getElem?_toList, List.getElem?_eq_getElem hpos]
  refine R.eptr gl0 0 0 0 cs0.toList hne (cell_spot h0).2 hr fun j v hj => ?_
  rw [Nat.zero_add, hcell, ← Array.getElem?_toList]; exact hj

set_option maxRecDepth 1000000 in
theorem iso (fs : List FV) (hfs : OfTs Tryd.prog Tryd.f4.params.toList fs) : IsoCall Tryd.prog 4 fs (.bool true) := by
    rw [Tryd.params4] at hfs
    match fs, hfs with
    | [_, _], ⟨⟨n0, cs0, h0, rfl⟩, ⟨n1, cs1, h1, rfl⟩, _⟩ =>
      obtain ⟨x_0, e0, p_0⟩ := term_view (u8 := 5) (i64 := 3) (u64 := 22) (str := 9) (sl := 23) (by kernel_rfl) (by kernel_rfl) (by kernel_rfl) (by kernel_rfl) (by kernel_rfl) (by kernel_rfl) (by kernel_rfl) (by kernel_rfl) (by kernel_rfl) (by kernel_rfl) (by kernel_rfl) (by kernel_rfl) (by kernel_rfl) h0
      obtain ⟨x_1, e1, p_1⟩ := term_view (u8 := 5) (i64 := 3) (u64 := 22) (str := 9) (sl := 23) (by kernel_rfl) (by kernel_rfl) (by kernel_rfl) (by kernel_rfl) (by kernel_rfl) (by kernel_rfl) (by kernel_rfl) (by kernel_rfl) (by kernel_rfl) (by kernel_rfl) (by kernel_rfl) (by kernel_rfl) (by kernel_rfl) h1
      rw [e0, e1, tV_eq x_0, tV_eq x_1]
      exact isoCall_of_lim tab tg4 rfl (law_TC x_0 x_1 p_0 p_1 [] 0) rfl

set_option maxRecDepth 1000000 in
theorem contract (H : Type) (enc : TypeId × Value → H) (W : World) (base : Nat) (args : Array Value) (ds gs : List (DataW H)) (before : List MemPlace)
    (hval : ∀ (j : Nat) t v, Tryd.f4.params[j]? = some t → args[j]? = some v → Value.okWide Tryd.prog W .any base t v)
    (hW : DataW.Whole enc Tryd.prog Tryd.f4.params.toList Rows.termChecksSpec.vars false W args.toList ds gs before) (hL : laidMetH Tryd.prog laid W) :
    Calls Tryd.prog 4 args W fun e W' => ∃ v, e = .returned v ∧ Rows.termChecksSpec.post enc Tryd.prog Tryd.f4 false true false false W args v W' := by
  refine contract_true (ts := [25, 5, 3, 22, 9, 23]) (tb := 4) clo (by kernel_rfl) laidOut (by kernel_rfl) (by kernel_rfl) (by kernel_rfl) rfl ?_ iso (glok hL) hval hW
  intro ds hd
  rw [Tryd.params4] at hd
  match ds, hd with
  | [_, _], _ => exact ⟨rfl, rfl, rfl⟩

set_option maxRecDepth 100000 in
theorem lifted (os : Os) (started : os.Started) (H : Type) (enc : TypeId × Value → H) :
    ReturnsInHanded {} Tryd.checked os 4 .any (fun w args => (Rows.termChecksSpec.pre enc Tryd.prog Tryd.f4 [] false w args ∧ laidMetH Tryd.prog laid w) ∧ sizedMet enc Tryd.prog Tryd.f4 (OpenSpec.ofChange Rows.termChecksSpec) false w args)
      (Rows.termChecksSpec.post enc Tryd.prog Tryd.f4 false true false false) := by
  refine returnsInHanded_of_change_and (C := Tryd.checked) (X := fun w _ => laidMetH Tryd.prog laid w) (fun _ _ _ hh h => h.of_heap hh) own started (by kernel_rfl) Tryd.func4
    (ChangeSpec.witness_shaped (enc := enc) (C := Tryd.checked) (os := os) (X := fun w _ => laidMetH Tryd.prog laid w) false (World.doorLaid Tryd.prog 400 os) #[.agg #[.int .u8 0, .int .i64 0, .int .u64 0, .string ⟨#[]⟩, .int .i64 0, .slice none 0 0], .agg #[.int .u8 0, .int .i64 0, .int .u64 0, .string ⟨#[]⟩, .int .i64 0, .slice none 0 0]] 8 rfl (World.shaped_of_RefB (by kernel_rfl) (by kernel_rfl)) (by kernel_rfl) (by kernel_rfl) (by kernel_rfl) (door_met os _)) ?_
  intro W base args ds gs before hval hW _ _ hL _
  exact contract H enc W base args ds gs before hval hW hL

theorem over : Rows.TermChecksSaid :=
  OpenClaim.holds_of_wide 4 Tryd.f4 rfl rfl rfl rfl rfl rfl rfl ⟨rfl, rfl, rfl, rfl, rfl⟩ rfl rfl rfl rfl rfl (by kernel_rfl) Tryd.func4 (by kernel_rfl)
    (of_decide_eq_true (by kernel_rfl)) (by unfold Func.isWrapper; first | (rw [if_pos (by decide +kernel)]; kernel_rfl) | (rw [if_neg (by decide +kernel)]; exact ⟨rfl, rfl⟩))
    (fun os started H enc _ => lifted os started H enc)

theorem proved : Rows.TermChecksCardSaid :=
  Claim7.holds_tied_plain_at .later [] [.data] true (true, "87324f998a5ac670f3ff221ed3fdfee28f3f9d15c2bca8ab3cfaf58bf45a6b5b") true
    over (fun _ h => by cases h) (by kernel_rfl) (fun _ h => by cases h) termChecks_row_tie rfl ⟨rfl, rfl⟩ (by kernel_rfl) rfl
    (fun f fn hf hfn => by
      obtain rfl : f = 4 := Option.some.inj ((show Tryd.prog.funcNamed "retarget/retargetlaw02.TermChecks" = some 4 by kernel_rfl).symm.trans hf) |>.symm
      obtain rfl : fn = Tryd.f4 := (Option.some.inj (Tryd.func4.symm.trans hfn)).symm
      exact ⟨by kernel_rfl, fun j t ht => by
        rw [Tryd.params4] at ht
        match j, ht with
        | 0, ht => have ht : some 25 = some t := ht; obtain rfl := Option.some.inj ht; show Tryd.prog.wantsStandIn 25 = false; kernel_rfl
        | 1, ht => have ht : some 25 = some t := ht; obtain rfl := Option.some.inj ht; show Tryd.prog.wantsStandIn 25 = false; kernel_rfl
        | (j + 2), ht => simp at ht⟩)
    (by kernel_rfl)
#print axioms proved
end Go.Proofs.YtkobnfjeehnhlaaDoor.termChecks
