/- Parts of the proof, one behind the other. -/
import Derived.Test.YtlcbcacnbjekpaaDoorBS4
import Derived.Test.YtlcbcacnbjekpaaDoorBS6
import Derived.Test.YtlcbcacnbjekpaaDoorCards
import Derived.Test.YtlcbcacnbjekpaaDoorTie
import Derived.SevenTiedAt
import Derived.ProofKit
import Derived.LaidMore
import Derived.OpenShut
import Derived.Stop.Joined
set_option linter.all false
namespace Go.Proofs.YtlcbcacnbjekpaaDoor.blastSatisfied
open Go Go.ChangeShapes Go.WideShapes Go.ChangeAt Go.RowKit Go.FI Go.WideMaps Go.WideElems
open Go.Proofs.YtlcbcacnbjekpaaDoor.Fi

abbrev laid : List (String × DataW Unit) := [("retarget/term.shapes", Rows.laid_retarget_term_shapes)]
theorem own : ownKnob Tryd.prog.godebug = none := by kernel_rfl
theorem laidOut : laidOutB Tryd.prog = true := by kernel_rfl
theorem clo : closed Tryd.prog [32, 28, 44, 9, 3, 29, 49, 30, 50, 4] = true := by kernel_rfl
theorem cloF : closedF Tryd.prog [129, 111, 9, 3] = true := by kernel_rfl
theorem gN : Tryd.prog.globalNamed "retarget/term.shapes" = some 1 := by kernel_rfl
theorem tN : (Tryd.prog.globals[1]?).map (·.type) = some 129 := by kernel_rfl
theorem fN : flatD (H := Unit) Rows.laid_retarget_term_shapes = some gl1 := by kernel_rfl

theorem door_met (os : Os) (args : Array Value) : laidMetH Tryd.prog laid ((World.doorLaid Tryd.prog 400 os).forCall (fun _ _ => 0) ⟨#[], args, []⟩).memory :=
  laidMetH_of_parts3 (fuel := 12) (laidMet_of_run' 12 (by kernel_rfl) (by kernel_rfl)) (by kernel_rfl) (by kernel_rfl)

set_option maxRecDepth 1000000 in
theorem glok {W : World} (h : laidMetH Tryd.prog laid W) : GlOk ⟨fun _ => none, (· < W.heap.size)⟩ W := by
  rw [MakeChecks.laidMetH_plain _ _ _ (by kernel_rfl)] at h
  obtain ⟨ps, ⟨g0, t0, cs0, f0, p0, q0, hg0, ht0, hv0, hd0, _, _⟩, _, _⟩ := h
  obtain rfl := Option.some.inj (gN.symm.trans hg0)
  obtain rfl := Option.some.inj (tN.symm.trans ht0)
  have hr : RL ⟨fun _ => none, (· < W.heap.size)⟩ W gl1 cs0.toList := by
    have hv := flat_opens (g := ⟨fun _ => none, (· < W.heap.size)⟩) cloF f0 129 cs0.toList _ p0 (by decide) hd0 gl1
    exact hv fN
  intro k cs hk
  have hk : glf k cs = true := hk
  unfold glf at hk
  simp only [Bool.and_eq_true, beq_iff_eq] at hk
  obtain ⟨rfl, hk⟩ := hk
  have hcs := eqvs_eq hk
  subst hcs
  have hcell : ∀ j, W.cell? ⟨1, j, none⟩ = cs0[j]? := fun j => World.var?_cell hg0 hv0 j
  have hne : gl1 ≠ [] := by
    intro e
    have h1 : (gl1).isEmpty = true := by rw [e]; rfl
    have h2 : (gl1).isEmpty = false := by kernel_rfl
    rw [h1] at h2; cases h2
  have hpos : 0 < cs0.toList.length := by
    rw [← hr.length]; exact List.length_pos_iff.2 hne
  have h0 : W.cell? ⟨1, 0, none⟩ = some (cs0.toList[0]) := by
    rw [hcell, ← Array.getElem?_toList, List.getElem?_eq_getElem hpos]
  refine R.eptr gl1 0 1 0 cs0.toList hne (cell_spot h0).2 hr fun j v hj => ?_
  rw [Nat.zero_add, hcell, ← Array.getElem?_toList]; exact hj

set_option maxRecDepth 1000000 in
theorem iso (fs : List FV) (hfs : OfTs Tryd.prog Tryd.f5.params.toList fs) : IsoCall Tryd.prog 5 fs (.bool true) := by
    rw [Tryd.params5] at hfs
    match fs, hfs with
    | [_, _, _, _], ⟨⟨n0, cs0, h0, rfl⟩, ⟨n1, cs1, h1, rfl⟩, ⟨n2, cs2, h2, rfl⟩, ⟨n3, cs3, h3, rfl⟩, _⟩ =>
      obtain ⟨x_0, y_0, z_0, q_0, e0⟩ := BC.circ_view (li := 28) (lg := 29) (lo := 30) (ei := 44) (eg := 49) (str := 9) (i64 := 3) h0 (by kernel_rfl) (by kernel_rfl) (by kernel_rfl) (by kernel_rfl) (by kernel_rfl) (by kernel_rfl) (by kernel_rfl) (by kernel_rfl) (by kernel_rfl) (by kernel_rfl) (by kernel_rfl) (by kernel_rfl) (by kernel_rfl) (by kernel_rfl) (by kernel_rfl) (by kernel_rfl) (by kernel_rfl) (by kernel_rfl) (by kernel_rfl)
      obtain ⟨x_1, rfl, q_1⟩ := h1.bools (e := 4) (by kernel_rfl) (by kernel_rfl) (by kernel_rfl)
      have e1 := mkE_one (P := Tryd.prog) (t := 50) (by kernel_rfl) (v := .lst false (x_1.map .bool))
      obtain ⟨x_2, rfl, p_2⟩ := h2.int (k := .i64) (by kernel_rfl)
      have e2 : mkE Tryd.prog 3 [.int .i64 x_2] = .int .i64 x_2 := mkE_one (by kernel_rfl)
      obtain ⟨x_3, rfl, p_3⟩ := h3.int (k := .i64) (by kernel_rfl)
      have e3 : mkE Tryd.prog 3 [.int .i64 x_3] = .int .i64 x_3 := mkE_one (by kernel_rfl)
      rw [e0, e1, e2, e3]
      exact isoCall_of_lim tab tg5 rfl (law_BS (e1 := false) (e2 := false) (e3 := false) (d := false) (ins := x_0) (gs := y_0) (outs := z_0) x_1 x_2 x_3 (by simp only [maxLen] at q_0; omega) [] 0) rfl

set_option maxRecDepth 1000000 in
theorem contract (H : Type) (enc : TypeId × Value → H) (W : World) (base : Nat) (args : Array Value) (ds gs : List (DataW H)) (before : List MemPlace)
    (hval : ∀ (j : Nat) t v, Tryd.f5.params[j]? = some t → args[j]? = some v → Value.okWide Tryd.prog W .any base t v)
    (hW : DataW.Whole enc Tryd.prog Tryd.f5.params.toList Rows.blastSatisfiedSpec.vars false W args.toList ds gs before) (hL : laidMetH Tryd.prog laid W) :
    Calls Tryd.prog 5 args W fun e W' => ∃ v, e = .returned v ∧ Rows.blastSatisfiedSpec.post enc Tryd.prog Tryd.f5 false true false false W args v W' := by
  refine contract_true (ts := [32, 28, 44, 9, 3, 29, 49, 30, 50, 4]) (tb := 4) clo (by kernel_rfl) laidOut (by kernel_rfl) (by kernel_rfl) (by kernel_rfl) rfl ?_ iso (glok hL) hval hW
  intro ds hd
  rw [Tryd.params5] at hd
  match ds, hd with
  | [_, _, _, _], _ => exact ⟨rfl, rfl, rfl⟩

set_option maxRecDepth 100000 in
theorem lifted (os : Os) (started : os.Started) (H : Type) (enc : TypeId × Value → H) :
    ReturnsInHanded {} Tryd.checked os 5 .any (fun w args => (Rows.blastSatisfiedSpec.pre enc Tryd.prog Tryd.f5 [] false w args ∧ laidMetH Tryd.prog laid w) ∧ sizedMet enc Tryd.prog Tryd.f5 (OpenSpec.ofChange Rows.blastSatisfiedSpec) false w args)
      (Rows.blastSatisfiedSpec.post enc Tryd.prog Tryd.f5 false true false false) := by
  refine returnsInHanded_of_change_and (C := Tryd.checked) (X := fun w _ => laidMetH Tryd.prog laid w) (fun _ _ _ hh h => h.of_heap hh) own started (by kernel_rfl) Tryd.func5
    (ChangeSpec.witness_shaped (enc := enc) (C := Tryd.checked) (os := os) (X := fun w _ => laidMetH Tryd.prog laid w) false (World.doorLaid Tryd.prog 400 os) #[.agg #[.slice none 0 0, .slice none 0 0, .slice none 0 0], .slice none 0 0, .int .i64 0, .int .i64 0] 8 rfl (World.shaped_of_RefB (by kernel_rfl) (by kernel_rfl)) (by kernel_rfl) (by kernel_rfl) (by kernel_rfl) (door_met os _)) ?_
  intro W base args ds gs before hval hW _ _ hL _
  exact contract H enc W base args ds gs before hval hW hL

theorem over : Rows.BlastSatisfiedSaid :=
  OpenClaim.holds_of_wide 5 Tryd.f5 rfl rfl rfl rfl rfl rfl rfl ⟨rfl, rfl, rfl, rfl, rfl⟩ rfl rfl rfl rfl rfl (by kernel_rfl) Tryd.func5 (by kernel_rfl)
    (of_decide_eq_true (by kernel_rfl)) (by unfold Func.isWrapper; first | (rw [if_pos (by decide +kernel)]; kernel_rfl) | (rw [if_neg (by decide +kernel)]; exact ⟨rfl, rfl⟩))
    (fun os started H enc _ => lifted os started H enc)

theorem proved : Rows.BlastSatisfiedCardSaid :=
  Claim7.holds_tied_plain_at .later [] [.data] true (true, "d8855c8726cdf85ab5c679fd0b71eab4b2c08cd1316c60171df7c6d4ceb72661") false
    over (fun _ h => by cases h) (by kernel_rfl) (fun _ h => by cases h) blastSatisfied_row_tie rfl ⟨rfl, rfl⟩ (by kernel_rfl) rfl
    (fun f fn hf hfn => by
      obtain rfl : f = 5 := Option.some.inj ((show Tryd.prog.funcNamed "retarget/retargetlaw04.BlastSatisfied" = some 5 by kernel_rfl).symm.trans hf) |>.symm
      obtain rfl : fn = Tryd.f5 := (Option.some.inj (Tryd.func5.symm.trans hfn)).symm
      exact ⟨by kernel_rfl, fun j t ht => by
        rw [Tryd.params5] at ht
        match j, ht with
        | 0, ht => have ht : some 32 = some t := ht; obtain rfl := Option.some.inj ht; show Tryd.prog.wantsStandIn 32 = false; kernel_rfl
        | 1, ht => have ht : some 50 = some t := ht; obtain rfl := Option.some.inj ht; show Tryd.prog.wantsStandIn 50 = false; kernel_rfl
        | 2, ht => have ht : some 3 = some t := ht; obtain rfl := Option.some.inj ht; show Tryd.prog.wantsStandIn 3 = false; kernel_rfl
        | 3, ht => have ht : some 3 = some t := ht; obtain rfl := Option.some.inj ht; show Tryd.prog.wantsStandIn 3 = false; kernel_rfl
        | (j + 4), ht => simp at ht⟩)
    (by kernel_rfl)
#print axioms proved
end Go.Proofs.YtlcbcacnbjekpaaDoor.blastSatisfied
