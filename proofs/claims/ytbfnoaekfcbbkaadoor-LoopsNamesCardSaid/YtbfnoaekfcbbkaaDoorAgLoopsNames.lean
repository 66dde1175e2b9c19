/- LoopsNames: called in whatever world lays the listed package variables as the text does, the function returns true and turns nothing that was there. The condition: the row's own, 'laid'. -/
import Derived.Test.YtbfnoaekfcbbkaaDoorRows
import Derived.Test.YtbfnoaekfcbbkaaDoorCards
import Derived.Test.YtbfnoaekfcbbkaaDoorTie
import Derived.Test.YtbfnoaekfcbbkaaDoorChecked
import Derived.Test.YtbfnoaekfcbbkaaDoorAgFd
import Derived.Test.YtbfnoaekfcbbkaaDoorAgFast
import Derived.Test.YtbfnoaekfcbbkaaDoorAgLnz
import Derived.Test.YtbfnoaekfcbbkaaDoorAgFuncs
import Derived.Deep.DeepLaidRun
import Derived.MakeChecks
import Derived.SevenTiedAt
namespace Go.Proofs.YtbfnoaekfcbbkaaDoor
open Go.ChangeShapes Go.WideShapes Go.ChangeAt Go.RowKit Go.MakeChecks AG
set_option maxRecDepth 100000
noncomputable section

theorem own : ownKnob Tryd.prog.godebug = none := by kernel_rfl
theorem laidOut : laidOutB Tryd.prog = true := by kernel_rfl

theorem door_met (os : Os) (args : Array Value) : laidMetH Tryd.prog Rows.loopsNamesRow.laid ((World.doorLaid Tryd.prog 48 os).forCall (fun _ _ => 0) ⟨#[], args, []⟩).memory :=
  laidMetH_of_parts3 (fuel := 8) (laidMet_of_run3 8 (by kernel_rfl) (by kernel_rfl) (by kernel_rfl)) (by kernel_rfl) (by kernel_rfl)



theorem lifted (os : Os) (started : os.Started) (H : Type) (enc : TypeId × Value → H) :
    ReturnsInHanded {} Tryd.checked os 3 .any (fun w args => (Rows.loopsNamesSpec.pre enc Tryd.prog Tryd.f3 [] false w args ∧ laidMetH Tryd.prog Rows.loopsNamesRow.laid w) ∧ sizedMet enc Tryd.prog Tryd.f3 (OpenSpec.ofChange Rows.loopsNamesSpec) false w args)
      (Rows.loopsNamesSpec.post enc Tryd.prog Tryd.f3 false true false false) := by
  refine returnsInHanded_of_change_and (C := Tryd.checked) (X := fun w _ => laidMetH Tryd.prog Rows.loopsNamesRow.laid w) (fun _ _ _ hh h => h.of_heap hh) own started (by kernel_rfl) Tryd.func3
    (ChangeSpec.witness_shaped (enc := enc) (C := Tryd.checked) (os := os) (X := fun w _ => laidMetH Tryd.prog Rows.loopsNamesRow.laid w) false (World.doorLaid Tryd.prog 48 os) #[] 8 rfl (World.shaped_of_RefB (by kernel_rfl) (by kernel_rfl)) (by kernel_rfl) (by kernel_rfl) (by kernel_rfl) (door_met os _)) ?_
  intro W base args ds gs before _ hW _ _ hL _
  have hW' := hW
  obtain ⟨p, q, hA0, hV, rfl, hfz, hnd⟩ := hW'
  have hA : DataW.TrodAll enc Tryd.prog W 0 (fun _ => true) true [] args.toList ds p := hA0
  obtain ⟨rfl, rfl, rfl⟩ := trodAll_none hA
  obtain ⟨rfl, rfl⟩ := trodVars_none hV
  obtain ⟨ρ, hm⟩ := start_ok hL
  refine (closed_calls A_ok runs hm (by decide) (by decide +kernel)).mono fun e W' ⟨he, hb⟩ => ?_
  subst he
  exact ⟨_, rfl, law_post (tb := (Tryd.f3.resultTypes[0]?).getD 0) (by kernel_rfl) (by kernel_rfl) rfl hW rfl laidOut (by kernel_rfl) hb⟩

theorem loopsNames_holds : Rows.LoopsNamesSaid :=
  OpenClaim.holds_of_wide 3 Tryd.f3 rfl rfl rfl rfl rfl rfl rfl ⟨rfl, rfl, rfl, rfl, rfl⟩ rfl rfl rfl rfl rfl (by kernel_rfl) Tryd.func3 (by kernel_rfl)
    (of_decide_eq_true (by kernel_rfl)) (by unfold Func.isWrapper; first | (rw [if_pos (by decide +kernel)]; kernel_rfl) | (rw [if_neg (by decide +kernel)]; exact ⟨rfl, rfl⟩))
    (fun os started H enc _ => lifted os started H enc)

theorem loopsNames_card_holds : Rows.LoopsNamesCardSaid :=
  Claim7.holds_tied_plain_at .later [] [.data, .widerDeep, .funcs] true (true, "02badeae9a67413f262914c473352510a150bc31dd4ec1578d1ff948b1f99c1f") false
    loopsNames_holds (fun _ h => by cases h) (by kernel_rfl) (fun _ h => by cases h) loopsNames_row_tie rfl ⟨rfl, rfl⟩ (by kernel_rfl) rfl
    (fun f fn hf hfn => by
      obtain rfl : f = 3 := Option.some.inj ((show Tryd.prog.funcNamed "lamplighter/lamplighterlaw17.LoopsNames" = some 3 by kernel_rfl).symm.trans hf) |>.symm
      obtain rfl : fn = Tryd.f3 := (Option.some.inj (Tryd.func3.symm.trans hfn)).symm
      exact ⟨by kernel_rfl, fun j t ht => by
        have hp : Tryd.f3.params = #[] := by kernel_rfl
        rw [hp] at ht
        simp at ht⟩)
    (by kernel_rfl)
#print axioms loopsNames_card_holds
end
end Go.Proofs.YtbfnoaekfcbbkaaDoor
