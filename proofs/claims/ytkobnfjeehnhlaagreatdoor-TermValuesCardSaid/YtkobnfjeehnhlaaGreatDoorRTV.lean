/- Parts of the proof, one behind the other. -/
import Derived.Test.YtkobnfjeehnhlaaGreatDoorVV4
import Derived.Test.YtkobnfjeehnhlaaGreatDoorVV7
import Derived.Test.YtkobnfjeehnhlaaGreatDoorCards
import Derived.Test.YtkobnfjeehnhlaaGreatDoorTie
import Derived.SevenTiedAt
import Derived.ProofKit
import Derived.LaidMore
import Derived.OpenShut
import Derived.Stop.Joined
set_option linter.all false
namespace Go.Proofs.YtkobnfjeehnhlaaGreatDoor.termValues
open Go Go.ChangeShapes Go.WideShapes Go.ChangeAt Go.RowKit Go.FI Go.WideMaps Go.WideElems
open Go.Proofs.YtkobnfjeehnhlaaGreatDoor.Fi

abbrev laid : List (String × DataW Unit) := [("retarget/term.shapes", Rows.laid_retarget_term_shapes)]
theorem own : ownKnob Tryz.prog.godebug = none := by kernel_rfl
theorem laidOut : laidOutB Tryz.prog = true := by kernel_rfl
theorem clo : closed Tryz.prog [25, 5, 3, 22, 9, 23, 26, 57, 27, 71] = true := by kernel_rfl
theorem cloF : Amo Tryz.prog [132, 131, 9, 3] = true := by kernel_rfl
theorem gN : Tryz.prog.globalNamed "retarget/term.shapes" = some 0 := by kernel_rfl
theorem tN : (Tryz.prog.globals[0]?).map (·.type) = some 132 := by kernel_rfl
theorem fN : Acm (H := Unit) Rows.laid_retarget_term_shapes = some gl0 := by kernel_rfl

theorem Aoa (os : Os) (args : Array Value) : laidMetH Tryz.prog laid ((World.doorLaid Tryz.prog 400 os).forCall (fun _ _ => 0) ⟨#[], args, []⟩).memory :=
  laidMetH_of_parts3 (fuel := 12) (laidMet_of_run' 12 (by kernel_rfl) (by kernel_rfl)) (by kernel_rfl) (by kernel_rfl)

set_option maxRecDepth 1000000 in
theorem glok {W : World} (h : laidMetH Tryz.prog laid W) : GlOk ⟨fun _ => none, (· < W.heap.size)⟩ W := by
  rw [MakeChecks.laidMetH_plain _ _ _ (by kernel_rfl)] at h
  obtain ⟨ps, ⟨g0, t0, cs0, f0, p0, q0, hg0, ht0, hv0, hd0, _, _⟩, _, _⟩ := h
  obtain rfl := Option.some.inj (gN.symm.trans hg0)
  obtain rfl := Option.some.inj (tN.symm.trans ht0)
  have hr : RL ⟨fun _ => none, (· < W.heap.size)⟩ W gl0 cs0.toList := by
    have hv := Aic (g := ⟨fun _ => none, (· < W.heap.size)⟩) cloF f0 132 cs0.toList _ p0 (by decide) hd0 gl0
    exact hv fN
  intro k cs hk
  have hk : glf k cs = true := hk
  unfold glf at hk
  simp only [Bool.and_eq_true, beq_iff_eq] at hk
  obtain ⟨rfl, hk⟩ := hk
  have hcs := A3w hk
  subst hcs
  have hcell : ∀ j, W.cell? ⟨0, j, none⟩ = cs0[j]? := fun j => World.var?_cell hg0 hv0 j
  have hne : gl0 ≠ [] := by
    intro e
    have h1 : (gl0).isEmpty = true := by rw [e]; rfl
    have h2 : (gl0).isEmpty = false := by kernel_rfl
    rw [h1] at h2; cases h2
  have hpos : 0 < cs0.toList.length := by
    rw [← hr.length]; exact List.length_pos_iff.2 hne
  have h0 : W.cell? ⟨0, 0, none⟩ = some (cs0.toList[0]) := by
    rw [hcell, ← Array.getElem?_toList, List.getElem?_eq_getElem hpos]
  refine R.eptr gl0 0 0 0 cs0.toList hne (A99 h0).2 hr fun j v hj => ?_
  rw [Nat.zero_add, hcell, ← Array.getElem?_toList]; exact hj

set_option maxRecDepth 1000000 in
theorem iso (fs : List FV) (hfs : OfTs Tryz.prog Tryz.f3.params.toList fs) : IsoCall Tryz.prog 3 fs (.bool true) := by
    rw [Tryz.params3] at hfs
    match fs, hfs with
    | [_, _, _, _, _, _], ⟨⟨n0, cs0, h0, rfl⟩, ⟨n1, cs1, h1, rfl⟩, ⟨n2, cs2, h2, rfl⟩, ⟨n3, cs3, h3, rfl⟩, ⟨n4, cs4, h4, rfl⟩, ⟨n5, cs5, h5, rfl⟩, _⟩ =>
      obtain ⟨x_0, e0, p_0⟩ := Al0 (u8 := 5) (i64 := 3) (u64 := 22) (str := 9) (sl := 23) (by kernel_rfl) (by kernel_rfl) (by kernel_rfl) (by kernel_rfl) (by kernel_rfl) (by kernel_rfl) (by kernel_rfl) (by kernel_rfl) (by kernel_rfl) (by kernel_rfl) (by kernel_rfl) (by kernel_rfl) (by kernel_rfl) h0
      obtain ⟨x_1, rfl, q_1, p_1⟩ := Anx (e := 57) (str := 9) (i64 := 3) (u64 := 22) h1 (by kernel_rfl) (by kernel_rfl) (by kernel_rfl) (by kernel_rfl) (by kernel_rfl) (by kernel_rfl) (by kernel_rfl) (by kernel_rfl) (by kernel_rfl)
      have e1 := A71 (P := Tryz.prog) (t := 26) (by kernel_rfl) (v := .lst false (x_1.map bdV))
      obtain ⟨x_2, rfl, q_2, p_2⟩ := h2.pairs (e := 71) (u := 22) (v := 5) (f := .int .u64) (g := .int .u8) (ga := fun x => IntKind.u64.min ≤ x ∧ x ≤ IntKind.u64.max) (gb := fun x => IntKind.u8.min ≤ x ∧ x ≤ IntKind.u8.max) (by kernel_rfl) (by kernel_rfl) (by kernel_rfl) (by kernel_rfl) (by kernel_rfl)
        (fun m c hc => by obtain ⟨s, e, h⟩ := hc.int (k := .u64) (by kernel_rfl); exact ⟨s, e, h⟩) (fun m c hc => by obtain ⟨s, e, h⟩ := hc.int (k := .u8) (by kernel_rfl); exact ⟨s, e, h⟩)
      have e2 := A71 (P := Tryz.prog) (t := 27) (by kernel_rfl) (v := .lst false (x_2.map fun p => .agg [.int .u64 p.1, .int .u8 p.2]))
      obtain ⟨x_3, rfl, p_3⟩ := h3.int (k := .i64) (by kernel_rfl)
      have e3 : mkE Tryz.prog 3 [.int .i64 x_3] = .int .i64 x_3 := A71 (by kernel_rfl)
      obtain ⟨x_4, rfl, p_4⟩ := h4.int (k := .u64) (by kernel_rfl)
      have e4 : mkE Tryz.prog 22 [.int .u64 x_4] = .int .u64 x_4 := A71 (by kernel_rfl)
      obtain ⟨x_5, rfl, p_5⟩ := h5.int (k := .i64) (by kernel_rfl)
      have e5 : mkE Tryz.prog 3 [.int .i64 x_5] = .int .i64 x_5 := A71 (by kernel_rfl)
      rw [e0, e1, e2, e3, e4, e5, Aaz x_0]
      exact A9n tab tg3 rfl (law_TV x_0 p_0 false false x_1 (fun p hp => (p_1 p hp).1) x_2 (Au3 p_2) (by simp only [maxLen] at q_2; omega) x_3 x_4 x_5 (by simp [IntKind.min, IntKind.signed] at p_4; omega) (by simp [IntKind.max, IntKind.signed, IntKind.bits] at p_4; omega) [] 0) rfl

set_option maxRecDepth 1000000 in
theorem Apm (H : Type) (enc : TypeId × Value → H) (W : World) (base : Nat) (args : Array Value) (ds gs : List (DataW H)) (before : List MemPlace)
    (hval : ∀ (j : Nat) t v, Tryz.f3.params[j]? = some t → args[j]? = some v → Value.okWide Tryz.prog W .any base t v)
    (hW : DataW.Whole enc Tryz.prog Tryz.f3.params.toList Rows.termValuesSpec.vars false W args.toList ds gs before) (hL : laidMetH Tryz.prog laid W) :
    Calls Tryz.prog 3 args W fun e W' => ∃ v, e = .returned v ∧ Rows.termValuesSpec.post enc Tryz.prog Tryz.f3 false true false false W args v W' := by
  refine Abq (ts := [25, 5, 3, 22, 9, 23, 26, 57, 27, 71]) (tb := 4) clo (by kernel_rfl) laidOut (by kernel_rfl) (by kernel_rfl) (by kernel_rfl) rfl ?_ iso (glok hL) hval hW
  intro ds hd
  rw [Tryz.params3] at hd
  match ds, hd with
  | [_, _, _, _, _, _], _ => exact ⟨rfl, rfl, rfl⟩

set_option maxRecDepth 100000 in
theorem lifted (os : Os) (started : os.Started) (H : Type) (enc : TypeId × Value → H) :
    ReturnsInHanded {} Tryz.checked os 3 .any (fun w args => (Rows.termValuesSpec.pre enc Tryz.prog Tryz.f3 [] false w args ∧ laidMetH Tryz.prog laid w) ∧ sizedMet enc Tryz.prog Tryz.f3 (OpenSpec.ofChange Rows.termValuesSpec) false w args)
      (Rows.termValuesSpec.post enc Tryz.prog Tryz.f3 false true false false) := by
  refine returnsInHanded_of_change_and (C := Tryz.checked) (X := fun w _ => laidMetH Tryz.prog laid w) (fun _ _ _ hh h => h.of_heap hh) own started (by kernel_rfl) Tryz.func3
    (ChangeSpec.witness_shaped (enc := enc) (C := Tryz.checked) (os := os) (X := fun w _ => laidMetH Tryz.prog laid w) false (World.doorLaid Tryz.prog 400 os) #[.agg #[.int .u8 0, .int .i64 0, .int .u64 0, .string ⟨#[]⟩, .int .i64 0, .slice none 0 0], .slice none 0 0, .slice none 0 0, .int .i64 0, .int .u64 0, .int .i64 0] 8 rfl (World.shaped_of_RefB (by kernel_rfl) (by kernel_rfl)) (by kernel_rfl) (by kernel_rfl) (by kernel_rfl) (Aoa os _)) ?_
  intro W base args ds gs before hval hW _ _ hL _
  exact Apm H enc W base args ds gs before hval hW hL

theorem over : Rows.TermValuesSaid :=
  OpenClaim.holds_of_wide 3 Tryz.f3 rfl rfl rfl rfl rfl rfl rfl ⟨rfl, rfl, rfl, rfl, rfl⟩ rfl rfl rfl rfl rfl (by kernel_rfl) Tryz.func3 (by kernel_rfl)
    (of_decide_eq_true (by kernel_rfl)) (by unfold Func.isWrapper; first | (rw [if_pos (by decide +kernel)]; kernel_rfl) | (rw [if_neg (by decide +kernel)]; exact ⟨rfl, rfl⟩))
    (fun os started H enc _ => lifted os started H enc)

theorem proved : Rows.TermValuesCardSaid :=
  Claim7.holds_tied_plain_at .later [] [.data] true (true, "3261d896b76c39b9e8fda03d679ac18150623f4ef50e0ce9c5e2bd5958d0b5d2") true
    over (fun _ h => by cases h) (by kernel_rfl) (fun _ h => by cases h) termValues_row_tie rfl ⟨rfl, rfl⟩ (by kernel_rfl) rfl
    (fun f fn hf hfn => by
      obtain rfl : f = 3 := Option.some.inj ((show Tryz.prog.funcNamed "retarget/retargetlaw02.TermValues" = some 3 by kernel_rfl).symm.trans hf) |>.symm
      obtain rfl : fn = Tryz.f3 := (Option.some.inj (Tryz.func3.symm.trans hfn)).symm
      exact ⟨by kernel_rfl, fun j t ht => by
        rw [Tryz.params3] at ht
        match j, ht with
        | 0, ht => have ht : some 25 = some t := ht; obtain rfl := Option.some.inj ht; show Tryz.prog.wantsStandIn 25 = false; kernel_rfl
        | 1, ht => have ht : some 26 = some t := ht; obtain rfl := Option.some.inj ht; show Tryz.prog.wantsStandIn 26 = false; kernel_rfl
        | 2, ht => have ht : some 27 = some t := ht; obtain rfl := Option.some.inj ht; show Tryz.prog.wantsStandIn 27 = false; kernel_rfl
        | 3, ht => have ht : some 3 = some t := ht; obtain rfl := Option.some.inj ht; show Tryz.prog.wantsStandIn 3 = false; kernel_rfl
        | 4, ht => have ht : some 22 = some t := ht; obtain rfl := Option.some.inj ht; show Tryz.prog.wantsStandIn 22 = false; kernel_rfl
        | 5, ht => have ht : some 3 = some t := ht; obtain rfl := Option.some.inj ht; show Tryz.prog.wantsStandIn 3 = false; kernel_rfl
        | (j + 6), ht => simp at ht⟩)
    (by kernel_rfl)
#print axioms proved
end Go.Proofs.YtkobnfjeehnhlaaGreatDoor.termValues
