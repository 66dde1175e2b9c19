/- CfgNames: called in whatever world lays the listed package variables as the text does, the function returns true and turns nothing that was there. The condition: the row's own, 'laid'. -/
import Derived.Test.YtkmbepgofajfkaaDoorRows
import Derived.Test.YtkmbepgofajfkaaDoorCards
import Derived.Test.YtkmbepgofajfkaaDoorTie
import Derived.Test.YtkmbepgofajfkaaDoorChecked
import Derived.Test.YtkmbepgofajfkaaDoorAgFc
import Derived.Test.YtkmbepgofajfkaaDoorAgFast
import Derived.Test.YtkmbepgofajfkaaDoorAgFuncs
import Derived.Deep.DeepLaidRun
import Derived.MakeChecks
import Derived.SevenTiedAt
namespace Go.Proofs.YtkmbepgofajfkaaDoor
open Go.ChangeShapes Go.WideShapes Go.ChangeAt Go.RowKit Go.MakeChecks AG
set_option maxRecDepth 100000
noncomputable section

theorem own : ownKnob Tryd.prog.godebug = none := by kernel_rfl
theorem laidOut : laidOutB Tryd.prog = true := by kernel_rfl
/-- The listed tables. -/
def v_word_signs : List AV := [.str ⟨#[]⟩, .str ⟨#[43]⟩, .str ⟨#[45]⟩, .str ⟨#[42]⟩, .str ⟨#[47]⟩, .str ⟨#[37]⟩, .str ⟨#[115, 47]⟩, .str ⟨#[115, 37]⟩, .str ⟨#[38]⟩, .str ⟨#[124]⟩, .str ⟨#[94]⟩, .str ⟨#[60, 60]⟩, .str ⟨#[62, 62]⟩, .str ⟨#[115, 62, 62]⟩, .str ⟨#[61, 61]⟩, .str ⟨#[33, 61]⟩, .str ⟨#[60]⟩, .str ⟨#[60, 61]⟩, .str ⟨#[115, 60]⟩, .str ⟨#[115, 60, 61]⟩]
def v_code_kinds : List AV := [.str ⟨#[]⟩, .int .i64 0, .int .i64 0, .int .i64 0, .int .i64 0, .int .i64 0, .str ⟨#[104, 97, 108, 116]⟩, .int .i64 0, .int .i64 0, .int .i64 0, .int .i64 0, .int .i64 0, .str ⟨#[112, 117, 115, 104]⟩, .int .i64 2, .int .i64 0, .int .i64 0, .int .i64 0, .int .i64 1, .str ⟨#[112, 111, 112]⟩, .int .i64 0, .int .i64 0, .int .i64 0, .int .i64 1, .int .i64 0, .str ⟨#[108, 100]⟩, .int .i64 1, .int .i64 0, .int .i64 0, .int .i64 0, .int .i64 1, .str ⟨#[115, 116]⟩, .int .i64 1, .int .i64 3, .int .i64 0, .int .i64 1, .int .i64 0, .str ⟨#[108, 100, 120]⟩, .int .i64 1, .int .i64 4, .int .i64 0, .int .i64 1, .int .i64 1, .str ⟨#[115, 116, 120]⟩, .int .i64 1, .int .i64 4, .int .i64 3, .int .i64 2, .int .i64 0, .str ⟨#[108, 100, 108]⟩, .int .i64 1, .int .i64 0, .int .i64 0, .int .i64 0, .int .i64 1, .str ⟨#[115, 116, 108]⟩, .int .i64 1, .int .i64 3, .int .i64 0, .int .i64 1, .int .i64 0, .str ⟨#[105, 110]⟩, .int .i64 1, .int .i64 0, .int .i64 0, .int .i64 0, .int .i64 1, .str ⟨#[111, 117, 116]⟩, .int .i64 1, .int .i64 0, .int .i64 0, .int .i64 1, .int .i64 0, .str ⟨#[98, 105, 110]⟩, .int .i64 7, .int .i64 0, .int .i64 0, .int .i64 2, .int .i64 1, .str ⟨#[117, 110]⟩, .int .i64 8, .int .i64 0, .int .i64 0, .int .i64 1, .int .i64 1, .str ⟨#[99, 117, 116]⟩, .int .i64 3, .int .i64 0, .int .i64 0, .int .i64 1, .int .i64 1, .str ⟨#[106, 109, 112]⟩, .int .i64 1, .int .i64 0, .int .i64 0, .int .i64 0, .int .i64 0, .str ⟨#[106, 122]⟩, .int .i64 1, .int .i64 0, .int .i64 0, .int .i64 1, .int .i64 0, .str ⟨#[99, 97, 108, 108]⟩, .int .i64 1, .int .i64 0, .int .i64 0, .int .i64 0, .int .i64 1, .str ⟨#[114, 101, 116]⟩, .int .i64 0, .int .i64 0, .int .i64 0, .int .i64 1, .int .i64 0, .str ⟨#[101, 110]⟩, .int .i64 5, .int .i64 0, .int .i64 0, .int .i64 0, .int .i64 0, .str ⟨#[100, 105, 115]⟩, .int .i64 5, .int .i64 0, .int .i64 0, .int .i64 0, .int .i64 0, .str ⟨#[108, 118, 108]⟩, .int .i64 6, .int .i64 0, .int .i64 0, .int .i64 0, .int .i64 0, .str ⟨#[112, 116]⟩, .int .i64 0, .int .i64 0, .int .i64 0, .int .i64 0, .int .i64 0, .str ⟨#[98, 101, 103]⟩, .int .i64 1, .int .i64 0, .int .i64 0, .int .i64 0, .int .i64 0, .str ⟨#[101, 110, 100]⟩, .int .i64 1, .int .i64 0, .int .i64 0, .int .i64 0, .int .i64 0]
def v_image_checks : List AV := [.fn 180 [], .fn 181 [], .fn 182 [], .fn 183 [], .fn 184 [], .fn 185 []]
/-- The blocks at the start: the listed variables, those of which nothing is said, what a slice leads to. -/
def blocks : List ABlk := [.cells v_image_checks false, .cells [.slice 3 0 25 (some 25) 6] false, .cells v_word_signs false, .cells v_code_kinds false]
theorem start_ok {w : World} (h : laidMetH Tryd.prog Rows.cfgNamesRow.laid w) : ∃ ρ, MR Tryd.prog ρ (memOf blocks) w := by
  have hfull := h
  replace h := laidMetH_data h
  have h2 := flat_blk h (show ("lamplighter/word.signs", Rows.laid_lamplighter_word_signs) ∈ Rows.cfgNamesRow.laid.filter fun x => x.2.handleName?.isNone from List.mem_filter.2 ⟨List.mem_cons_self .., by kernel_rfl⟩) (g := 2) (t := (((Tryd.prog.globals[2]?).map (·.type)).getD 0)) (k := 8) (l := v_word_signs) (by kernel_rfl) (by kernel_rfl) (by kernel_rfl)
  obtain ⟨x1, h1⟩ := slice_blk h (show ("lamplighter/code.kinds", Rows.laid_lamplighter_code_kinds) ∈ Rows.cfgNamesRow.laid.filter fun x => x.2.handleName?.isNone from List.mem_filter.2 ⟨List.mem_cons_of_mem _ (List.mem_cons_self ..), by kernel_rfl⟩) (g := 1) (t := (((Tryd.prog.globals[1]?).map (·.type)).getD 0)) (e := (match Tryd.prog.underlying (((Tryd.prog.globals[1]?).map (·.type)).getD 0) with | some (.slice e) => e | _ => 0)) (k := 8) (len := 24) (c := 5) (l := v_code_kinds) (by kernel_rfl) (by kernel_rfl) (by kernel_rfl) (by kernel_rfl) (by kernel_rfl) (by kernel_rfl) (by decide +kernel)
  have h0 := funcs_blk hfull (show ("lamplighter/image.checks", Rows.laid_lamplighter_image_checks) ∈ Rows.cfgNamesRow.laid from List.mem_cons_of_mem _ (List.mem_cons_of_mem _ (List.mem_cons_self ..))) (g := 0) (t := (((Tryd.prog.globals[0]?).map (·.type)).getD 0)) (k := 6) (e := (match Tryd.prog.underlying (((Tryd.prog.globals[0]?).map (·.type)).getD 0) with | some (.array _ e) => e | _ => 0)) (l := v_image_checks) (by kernel_rfl) (by kernel_rfl) (by kernel_rfl) (by kernel_rfl) (by kernel_rfl)
  refine ⟨[⟨0, 0, 0, 0⟩, ⟨1, 0, 0, 0⟩, ⟨2, 0, 0, 0⟩, x1], MR.of_list rfl (by decide) (fun g hg => ?_) (fun i b hb => ?_) (by decide +kernel)⟩
  · have : g < 3 := hg
    match g, this with
    | 0, _ => exact ⟨_, rfl, rfl, rfl, rfl⟩
    | 1, _ => exact ⟨_, rfl, rfl, rfl, rfl⟩
    | 2, _ => exact ⟨_, rfl, rfl, rfl, rfl⟩
  · match i with
    | 0 => cases hb; exact ⟨_, rfl, h0 _⟩
    | 1 => cases hb; exact ⟨_, rfl, (h1 _ 3 rfl).1⟩
    | 2 => cases hb; exact ⟨_, rfl, h2 _⟩
    | 3 => cases hb; exact ⟨_, rfl, (h1 _ 3 rfl).2⟩
    | i + 4 => simp [blocks] at hb


theorem door_met (os : Os) (args : Array Value) : laidMetH Tryd.prog Rows.cfgNamesRow.laid ((World.doorLaid Tryd.prog 48 os).forCall (fun _ _ => 0) ⟨#[], args, []⟩).memory :=
  laidMetH_of_parts3 (fuel := 8) (laidMet_of_run3 8 (by kernel_rfl) (by kernel_rfl) (by kernel_rfl)) (by kernel_rfl) (by kernel_rfl)

theorem runs : isTrue (run A 1000 10 [] (memOf blocks)) = true := by
  rw [← runF_eq]
  kernel_rfl

theorem lifted (os : Os) (started : os.Started) (H : Type) (enc : TypeId × Value → H) :
    ReturnsInHanded {} Tryd.checked os 10 .any (fun w args => (Rows.cfgNamesSpec.pre enc Tryd.prog Tryd.f10 [] false w args ∧ laidMetH Tryd.prog Rows.cfgNamesRow.laid w) ∧ sizedMet enc Tryd.prog Tryd.f10 (OpenSpec.ofChange Rows.cfgNamesSpec) false w args)
      (Rows.cfgNamesSpec.post enc Tryd.prog Tryd.f10 false true false false) := by
  refine returnsInHanded_of_change_and (C := Tryd.checked) (X := fun w _ => laidMetH Tryd.prog Rows.cfgNamesRow.laid w) (fun _ _ _ hh h => h.of_heap hh) own started (by kernel_rfl) Tryd.func10
    (ChangeSpec.witness_shaped (enc := enc) (C := Tryd.checked) (os := os) (X := fun w _ => laidMetH Tryd.prog Rows.cfgNamesRow.laid w) false (World.doorLaid Tryd.prog 48 os) #[] 8 rfl (World.shaped_of_RefB (by kernel_rfl) (by kernel_rfl)) (by kernel_rfl) (by kernel_rfl) (by kernel_rfl) (door_met os _)) ?_
  intro W base args ds gs before _ hW _ _ hL _
  have hW' := hW
  obtain ⟨p, q, hA0, hV, rfl, hfz, hnd⟩ := hW'
  have hA : DataW.TrodAll enc Tryd.prog W 0 (fun _ => true) true [] args.toList ds p := hA0
  obtain ⟨rfl, rfl, rfl⟩ := trodAll_none hA
  obtain ⟨rfl, rfl⟩ := trodVars_none hV
  obtain ⟨ρ, hm⟩ := start_ok hL
  refine (closed_calls A_ok runs hm (by decide) (by decide +kernel)).mono fun e W' ⟨he, hb⟩ => ?_
  subst he
  exact ⟨_, rfl, law_post (tb := (Tryd.f10.resultTypes[0]?).getD 0) (by kernel_rfl) (by kernel_rfl) rfl hW rfl laidOut (by kernel_rfl) hb⟩

theorem cfgNames_holds : Rows.CfgNamesSaid :=
  OpenClaim.holds_of_wide 10 Tryd.f10 rfl rfl rfl rfl rfl rfl rfl ⟨rfl, rfl, rfl, rfl, rfl⟩ rfl rfl rfl rfl rfl (by kernel_rfl) Tryd.func10 (by kernel_rfl)
    (of_decide_eq_true (by kernel_rfl)) (by unfold Func.isWrapper; first | (rw [if_pos (by decide +kernel)]; kernel_rfl) | (rw [if_neg (by decide +kernel)]; exact ⟨rfl, rfl⟩))
    (fun os started H enc _ => lifted os started H enc)

theorem cfgNames_card_holds : Rows.CfgNamesCardSaid :=
  Claim7.holds_tied_plain_at .later [] [.data, .widerDeep, .funcs] true (true, "054ba98b6e0c192abea748de19c88ac47fb244701361a72d99b1191cf10c07b9") false
    cfgNames_holds (fun _ h => by cases h) (by kernel_rfl) (fun _ h => by cases h) cfgNames_row_tie rfl ⟨rfl, rfl⟩ (by kernel_rfl) rfl
    (fun f fn hf hfn => by
      obtain rfl : f = 10 := Option.some.inj ((show Tryd.prog.funcNamed "lamplighter/lamplighterlaw16.CfgNames" = some 10 by kernel_rfl).symm.trans hf) |>.symm
      obtain rfl : fn = Tryd.f10 := (Option.some.inj (Tryd.func10.symm.trans hfn)).symm
      exact ⟨by kernel_rfl, fun j t ht => by
        have hp : Tryd.f10.params = #[] := by kernel_rfl
        rw [hp] at ht
        simp at ht⟩)
    (by kernel_rfl)
#print axioms cfgNames_card_holds
end
end Go.Proofs.YtkmbepgofajfkaaDoor
