/- Parts of the proof, one behind the other. -/
import Derived.Test.YtjmppkmacaeahaaGreatDoorSF5
import Derived.Test.YtjmppkmacaeahaaGreatDoorSF10
import Derived.Test.YtjmppkmacaeahaaGreatDoorCards
import Derived.Test.YtjmppkmacaeahaaGreatDoorTie
import Derived.SevenTiedAt
import Derived.ProofKit
import Derived.LaidMore
import Derived.OpenShut
import Derived.Stop.Joined
set_option linter.all false
namespace Go.Proofs.YtjmppkmacaeahaaGreatDoor.simplifyFolds
open Go Go.ChangeShapes Go.WideShapes Go.ChangeAt Go.RowKit Go.FI Go.WideMaps Go.WideElems
open Go.Proofs.YtjmppkmacaeahaaGreatDoor.Fi

abbrev laid : List (String × DataW Unit) := [("retarget/term.shapes", Rows.laid_retarget_term_shapes)]
theorem own : ownKnob Tryz.prog.godebug = none := by kernel_rfl
theorem laidOut : laidOutB Tryz.prog = true := by kernel_rfl
theorem clo : closed Tryz.prog [25, 5, 3, 22, 9, 23, 39, 52] = true := by kernel_rfl
theorem cloF : closedF Tryz.prog [131, 108, 9, 3] = true := by kernel_rfl
theorem gN : Tryz.prog.globalNamed "retarget/term.shapes" = some 0 := by kernel_rfl
theorem tN : (Tryz.prog.globals[0]?).map (·.type) = some 131 := by kernel_rfl
theorem fN : flatD (H := Unit) Rows.laid_retarget_term_shapes = some gl0 := by kernel_rfl

theorem door_met (os : Os) (args : Array Value) : laidMetH Tryz.prog laid ((World.doorLaid Tryz.prog 400 os).forCall (fun _ _ => 0) ⟨#[], args, []⟩).memory :=
  laidMetH_of_parts3 (fuel := 12) (laidMet_of_run' 12 (by kernel_rfl) (by kernel_rfl)) (by kernel_rfl) (by kernel_rfl)

set_option maxRecDepth 1000000 in
theorem glok {W : World} (h : laidMetH Tryz.prog laid W) : GlOk ⟨fun _ => none, (· < W.heap.size)⟩ W := by
  rw [MakeChecks.laidMetH_plain _ _ _ (by kernel_rfl)] at h
  obtain ⟨ps, ⟨g0, t0, cs0, f0, p0, q0, hg0, ht0, hv0, hd0, _, _⟩, _, _⟩ := h
  obtain rfl := Option.some.inj (gN.symm.trans hg0)
  obtain rfl := Option.some.inj (tN.symm.trans ht0)
  have hr : RL ⟨fun _ => none, (· < W.heap.size)⟩ W gl0 cs0.toList := by
    have hv := flat_opens (g := ⟨fun _ => none, (· < W.heap.size)⟩) cloF f0 131 cs0.toList _ p0 (by decide) hd0 gl0
    exact hv fN
  intro k cs hk
  have hk : glf k cs = true := hk
  unfold glf at hk
  simp only [Bool.and_eq_true, beq_iff_eq] at hk
  obtain ⟨rfl, hk⟩ := hk
  have hcs := eqvs_eq hk
  subst hcs
  have hcell : ∀ j, W.cell? ⟨0, j, none⟩ = cs0[j]? := fun j => World.var?_cell hg0 hv0 j
  have hne : gl0 ≠ [] := by
    intro e
    have h1 : (gl0).isEmpty = true := by rw [e]; rfl
    have h2 : (gl0).isEmpty = false := by kernel_rfl
    rw [h1] at h2; cases h2
  have hpos : 0 < cs0.toList.length := by
    rw [← hr.length]; exact List.length_pos_iff.2 hne
  have h0 : W.cell? ⟨0, 0, none⟩ = some (cs0.toList[0]) := by
    rw [hcell, ← Array.getElem?_toList, List.getElem?_eq_getElem hpos]
  refine R.eptr gl0 0 0 0 cs0.toList hne (cell_spot h0).2 hr fun j v hj => ?_
  rw [Nat.zero_add, hcell, ← Array.getElem?_toList]; exact hj

set_option maxRecDepth 1000000 in
theorem iso (fs : List FV) (hfs : OfTs Tryz.prog Tryz.f9.params.toList fs) : IsoCall Tryz.prog 9 fs (.bool true) := by
    rw [Tryz.params9] at hfs
    match fs, hfs with
    | [_, _], ⟨⟨n0, cs0, h0, rfl⟩, ⟨n1, cs1, h1, rfl⟩, _⟩ =>
      obtain ⟨x_0, e0, p_0⟩ := term_view (u8 := 5) (i64 := 3) (u64 := 22) (str := 9) (sl := 23) (by kernel_rfl) (by kernel_rfl) (by kernel_rfl) (by kernel_rfl) (by kernel_rfl) (by kernel_rfl) (by kernel_rfl) (by kernel_rfl) (by kernel_rfl) (by kernel_rfl) (by kernel_rfl) (by kernel_rfl) (by kernel_rfl) h0
      obtain ⟨x_1, rfl, q_1, p_1⟩ := env_view (e := 52) (str := 9) (i64 := 3) (u64 := 22) h1 (by kernel_rfl) (by kernel_rfl) (by kernel_rfl) (by kernel_rfl) (by kernel_rfl) (by kernel_rfl) (by kernel_rfl) (by kernel_rfl) (by kernel_rfl)
      have e1 := mkE_one (P := Tryz.prog) (t := 39) (by kernel_rfl) (v := .lst false (x_1.map bdV))
      rw [e0, e1, tV_eq x_0]
      exact isoCall_of_lim tab tg9 rfl (law_SF x_0 p_0 false x_1 (fun p hp => (p_1 p hp).1) [] 0) rfl

set_option maxRecDepth 1000000 in
theorem contract (H : Type) (enc : TypeId × Value → H) (W : World) (base : Nat) (args : Array Value) (ds gs : List (DataW H)) (before : List MemPlace)
    (hval : ∀ (j : Nat) t v, Tryz.f9.params[j]? = some t → args[j]? = some v → Value.okWide Tryz.prog W .any base t v)
    (hW : DataW.Whole enc Tryz.prog Tryz.f9.params.toList Rows.simplifyFoldsSpec.vars false W args.toList ds gs before) (hL : laidMetH Tryz.prog laid W) :
    Calls Tryz.prog 9 args W fun e W' => ∃ v, e = .returned v ∧ Rows.simplifyFoldsSpec.post enc Tryz.prog Tryz.f9 false true false false W args v W' := by
  refine contract_true (ts := [25, 5, 3, 22, 9, 23, 39, 52]) (tb := 4) clo (by kernel_rfl) laidOut (by kernel_rfl) (by kernel_rfl) (by kernel_rfl) rfl ?_ iso (glok hL) hval hW
  intro ds hd
  rw [Tryz.params9] at hd
  match ds, hd with
  | [_, _], _ => exact ⟨rfl, rfl, rfl⟩

set_option maxRecDepth 100000 in
theorem lifted (os : Os) (started : os.Started) (H : Type) (enc : TypeId × Value → H) :
    ReturnsInHanded {} Tryz.checked os 9 .any (fun w args => (Rows.simplifyFoldsSpec.pre enc Tryz.prog Tryz.f9 [] false w args ∧ laidMetH Tryz.prog laid w) ∧ sizedMet enc Tryz.prog Tryz.f9 (OpenSpec.ofChange Rows.simplifyFoldsSpec) false w args)
      (Rows.simplifyFoldsSpec.post enc Tryz.prog Tryz.f9 false true false false) := by
  refine returnsInHanded_of_change_and (C := Tryz.checked) (X := fun w _ => laidMetH Tryz.prog laid w) (fun _ _ _ hh h => h.of_heap hh) own started (by kernel_rfl) Tryz.func9
    (ChangeSpec.witness_shaped (enc := enc) (C := Tryz.checked) (os := os) (X := fun w _ => laidMetH Tryz.prog laid w) false (World.doorLaid Tryz.prog 400 os) #[.agg #[.int .u8 0, .int .i64 0, .int .u64 0, .string ⟨#[]⟩, .int .i64 0, .slice none 0 0], .slice none 0 0] 8 rfl (World.shaped_of_RefB (by kernel_rfl) (by kernel_rfl)) (by kernel_rfl) (by kernel_rfl) (by kernel_rfl) (door_met os _)) ?_
  intro W base args ds gs before hval hW _ _ hL _
  exact contract H enc W base args ds gs before hval hW hL

theorem over : Rows.SimplifyFoldsSaid :=
  OpenClaim.holds_of_wide 9 Tryz.f9 rfl rfl rfl rfl rfl rfl rfl ⟨rfl, rfl, rfl, rfl, rfl⟩ rfl rfl rfl rfl rfl (by kernel_rfl) Tryz.func9 (by kernel_rfl)
    (of_decide_eq_true (by kernel_rfl)) (by unfold Func.isWrapper; first | (rw [if_pos (by decide +kernel)]; kernel_rfl) | (rw [if_neg (by decide +kernel)]; exact ⟨rfl, rfl⟩))
    (fun os started H enc _ => lifted os started H enc)

theorem proved : Rows.SimplifyFoldsCardSaid :=
  Claim7.holds_tied_plain_at .later [] [.data] true (true, "0556d3fcc643a0d7cb9259ee2e413da6712dd373974a5da7a18ebff0f14be67e") true
    over (fun _ h => by cases h) (by kernel_rfl) (fun _ h => by cases h) simplifyFolds_row_tie rfl ⟨rfl, rfl⟩ (by kernel_rfl) rfl
    (fun f fn hf hfn => by
      obtain rfl : f = 9 := Option.some.inj ((show Tryz.prog.funcNamed "retarget/retargetlaw03.SimplifyFolds" = some 9 by kernel_rfl).symm.trans hf) |>.symm
      obtain rfl : fn = Tryz.f9 := (Option.some.inj (Tryz.func9.symm.trans hfn)).symm
      exact ⟨by kernel_rfl, fun j t ht => by
        rw [Tryz.params9] at ht
        match j, ht with
        | 0, ht => have ht : some 25 = some t := ht; obtain rfl := Option.some.inj ht; show Tryz.prog.wantsStandIn 25 = false; kernel_rfl
        | 1, ht => have ht : some 39 = some t := ht; obtain rfl := Option.some.inj ht; show Tryz.prog.wantsStandIn 39 = false; kernel_rfl
        | (j + 2), ht => simp at ht⟩)
    (by kernel_rfl)
#print axioms proved
end Go.Proofs.YtjmppkmacaeahaaGreatDoor.simplifyFolds
