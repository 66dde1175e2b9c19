/- MaskOrder: called with any arguments of its types, in whatever world lays the listed package variables as the text does, the function returns true and turns nothing that was there. The condition: the row's own, 'laid'. -/
import Derived.Test.YtenhcejelicjfaaDoorRows
import Derived.Test.YtenhcejelicjfaaDoorCards
import Derived.Test.YtenhcejelicjfaaDoorTie
import Derived.Test.YtenhcejelicjfaaDoorChecked
import Derived.Test.YtenhcejelicjfaaDoorAgMaskQ
import Derived.Test.YtenhcejelicjfaaDoorAgArgs
import Derived.LaidMore
import Derived.MakeChecks
import Derived.SevenTiedAt
namespace Go.Proofs.YtenhcejelicjfaaDoor
open Go.ChangeShapes Go.WideShapes Go.ChangeAt Go.RowKit Go.MakeChecks AG
set_option maxRecDepth 100000

theorem own : ownKnob Tryd.prog.godebug = none := by kernel_rfl
theorem laidOut : laidOutB Tryd.prog = true := by kernel_rfl
/-- The blocks at the start: a variable of which nothing is said, the slice, the signs, what the slice leads to. -/
def blocks : List ABlk := [.dead, .cells [.slice 3 0 25 (some 25) 6] false, .cells signs false, .cells kinds false]
theorem start_ok {w : World} (h : laidMetH Tryd.prog Rows.maskOrderRow.laid w) : ∃ ρ, MR Tryd.prog ρ (memOf blocks) w := by
  rw [laidMetH_plain _ _ _ (by kernel_rfl)] at h
  have hd1 : ("lamplighter/word.signs", Rows.laid_lamplighter_word_signs) ∈ Rows.maskOrderRow.laid := List.mem_cons_self ..
  have hd2 : ("lamplighter/code.kinds", Rows.laid_lamplighter_code_kinds) ∈ Rows.maskOrderRow.laid := List.mem_cons_of_mem _ (List.mem_cons_self ..)
  have h2 := flat_blk h hd1 (g := 2) (t := ((Tryd.prog.globals[2]?).map (·.type)).getD 0) (k := 8) (l := signs) (by kernel_rfl) (by kernel_rfl) (by kernel_rfl)
  obtain ⟨x, h1⟩ := slice_blk h hd2 (g := 1) (t := ((Tryd.prog.globals[1]?).map (·.type)).getD 0) (e := (match Tryd.prog.underlying (((Tryd.prog.globals[1]?).map (·.type)).getD 0) with | some (.slice e) => e | _ => 0)) (k := 8) (len := 24) (c := 5) (l := kinds) (by kernel_rfl) (by kernel_rfl) (by kernel_rfl) (by kernel_rfl) (by kernel_rfl) (by kernel_rfl) (by decide +kernel)
  refine ⟨[⟨0, 0, 0⟩, ⟨1, 0, 0⟩, ⟨2, 0, 0⟩, x], MR.of_list rfl (by decide) (fun g hg => ?_) (fun i b hb => ?_) (by decide +kernel)⟩
  · have : g < 3 := hg
    match g, this with
    | 0, _ => exact ⟨_, rfl, rfl, rfl⟩
    | 1, _ => exact ⟨_, rfl, rfl, rfl⟩
    | 2, _ => exact ⟨_, rfl, rfl, rfl⟩
  · match i with
    | 0 => cases hb; exact ⟨_, rfl, trivial⟩
    | 1 => cases hb; exact ⟨_, rfl, (h1 _ 3 rfl).1⟩
    | 2 => cases hb; exact ⟨_, rfl, h2 _⟩
    | 3 => cases hb; exact ⟨_, rfl, (h1 _ 3 rfl).2⟩
    | i + 4 => simp [blocks] at hb

theorem door_met (os : Os) (args : Array Value) : laidMetH Tryd.prog Rows.maskOrderRow.laid ((World.doorLaid Tryd.prog 151 os).forCall (fun _ _ => 0) ⟨#[], args, []⟩).memory := by
  rw [laidMetH_plain _ _ _ (by kernel_rfl)]
  exact laidMet_of_run' 8 (by kernel_rfl) (by kernel_rfl)

theorem lives_ok : ∃ m', run A 1000 29 [] (memOf blocks) = some (.bool true, m') ∧ Tab m' := by
  have h : (run A 1000 29 [] (memOf blocks)).map (fun p => (p.1, p.2.get 1, p.2.get 2, p.2.get 3)) = some (.bool true, some (.cells [.slice 3 0 25 (some 25) 6] false), some (.cells signs false), some (.cells kinds false)) := by kernel_rfl
  obtain ⟨⟨v, m'⟩, h1, h2⟩ := Option.map_eq_some_iff.1 h
  simp only [Prod.mk.injEq] at h2
  obtain ⟨rfl, h3, h4, h5⟩ := h2
  exact ⟨m', h1, h3, h4, h5⟩

theorem mk_of {ρ : Rho} {cs : Array Value} (h : Ints [.u32, .u32, .i64, .i64] cs.toList) : ∃ a : Mk, VR ρ a.av (.agg cs) := by
  obtain ⟨x, r1, e1, w1, y, r2, rfl, w2, z, r3, rfl, _, t, r4, rfl, _, rfl⟩ := h
  obtain ⟨b, hb⟩ := u32_of w1
  obtain ⟨c, hc⟩ := u32_of w2
  rw [hb, hc] at e1
  refine ⟨⟨b, c, z, t⟩, ?_⟩
  simp only [Mk.av, mkA, U, VR]
  refine ⟨cs, rfl, ?_⟩
  rw [e1]
  simp [VRs, VR]

theorem ins_of {ρ : Rho} {cs : Array Value} (h : Ints [.i64, .i64, .i64, .i64] cs.toList) : ∃ x y z t : Int, VR ρ (insA x y z t) (.agg cs) := by
  obtain ⟨x, r1, e1, _, y, r2, rfl, _, z, r3, rfl, _, t, r4, rfl, _, rfl⟩ := h
  refine ⟨x, y, z, t, ?_⟩
  simp only [insA, VR]
  refine ⟨cs, rfl, ?_⟩
  rw [e1]
  simp [VRs, VR]

theorem lifted (os : Os) (started : os.Started) (H : Type) (enc : TypeId × Value → H) :
    ReturnsInHanded {} Tryd.checked os 9 .any (fun w args => (Rows.maskOrderSpec.pre enc Tryd.prog Tryd.f9 [] false w args ∧ laidMetH Tryd.prog Rows.maskOrderRow.laid w) ∧ sizedMet enc Tryd.prog Tryd.f9 (OpenSpec.ofChange Rows.maskOrderSpec) false w args)
      (Rows.maskOrderSpec.post enc Tryd.prog Tryd.f9 false true false false) := by
  refine returnsInHanded_of_change_and (C := Tryd.checked) (X := fun w _ => laidMetH Tryd.prog Rows.maskOrderRow.laid w) (fun _ _ _ hh h => h.of_heap hh) own started (by kernel_rfl) Tryd.func9
    (ChangeSpec.witness_shaped (enc := enc) (C := Tryd.checked) (os := os) (X := fun w _ => laidMetH Tryd.prog Rows.maskOrderRow.laid w) false (World.doorLaid Tryd.prog 151 os) #[.agg #[.int .u32 0, .int .u32 0, .int .i64 0, .int .i64 0], .agg #[.int .u32 0, .int .u32 0, .int .i64 0, .int .i64 0], .agg #[.int .u32 0, .int .u32 0, .int .i64 0, .int .i64 0], .agg #[.int .i64 0, .int .i64 0, .int .i64 0, .int .i64 0]] 8 rfl (World.shaped_of_RefB (by kernel_rfl) (by kernel_rfl)) (by kernel_rfl) (by kernel_rfl) (by kernel_rfl) (door_met os _)) ?_
  intro W base args ds gs before _ hW _ _ hL _
  have hW' := hW
  obtain ⟨p, q, hA0, hV, rfl, hfz, hnd⟩ := hW'
  have hA : DataW.TrodAll enc Tryd.prog W 0 (fun _ => true) true [((Tryd.f9.params[0]?).getD 0), ((Tryd.f9.params[1]?).getD 0), ((Tryd.f9.params[2]?).getD 0), ((Tryd.f9.params[3]?).getD 0)] args.toList ds p := hA0
  obtain ⟨v0, v1, v2, v3, d0, d1, d2, d3, p0, p1, p2, p3, rfl, rfl, rfl, h0, h1, h2, h3⟩ := trodAll_four hA
  obtain ⟨c0, rfl, i0⟩ := agg_of h0 (n := 8) (k1 := .u32) (k2 := .u32) (ks := [.i64, .i64]) (by kernel_rfl)
  obtain ⟨c1, rfl, i1⟩ := agg_of h1 (n := 8) (k1 := .u32) (k2 := .u32) (ks := [.i64, .i64]) (by kernel_rfl)
  obtain ⟨c2, rfl, i2⟩ := agg_of h2 (n := 8) (k1 := .u32) (k2 := .u32) (ks := [.i64, .i64]) (by kernel_rfl)
  obtain ⟨c3, rfl, i3⟩ := agg_of h3 (n := 8) (k1 := .i64) (k2 := .i64) (ks := [.i64, .i64]) (by kernel_rfl)
  obtain ⟨ρ, hm⟩ := start_ok hL
  obtain ⟨a, ha⟩ := mk_of (ρ := ρ) i0
  obtain ⟨b, hb⟩ := mk_of (ρ := ρ) i1
  obtain ⟨c, hc⟩ := mk_of (ρ := ρ) i2
  obtain ⟨x, y, z, t, hi⟩ := ins_of (ρ := ρ) i3
  obtain ⟨m', hl, hT⟩ := lives_ok
  have hc := law_calls A_ok (order_run 994 a b c x y z t _ m' hT hl) hm (rargs := #[.agg c0, .agg c1, .agg c2, .agg c3]) (by simp only [VRs]; exact ⟨_, _, rfl, ha, _, _, rfl, hb, _, _, rfl, hc, _, _, rfl, hi, rfl⟩) (by decide) (by decide +kernel)
  obtain ⟨rfl, rfl⟩ := trodVars_none hV
  refine hc.mono fun e W' ⟨he, hb⟩ => ?_
  subst he
  exact ⟨_, rfl, law_post (tb := (Tryd.f9.resultTypes[0]?).getD 0) (by kernel_rfl) (by kernel_rfl) rfl hW rfl laidOut (by kernel_rfl) hb⟩

theorem maskOrder_holds : Rows.MaskOrderSaid :=
  OpenClaim.holds_of_wide 9 Tryd.f9 rfl rfl rfl rfl rfl rfl rfl ⟨rfl, rfl, rfl, rfl, rfl⟩ rfl rfl rfl rfl rfl (by kernel_rfl) Tryd.func9 (by kernel_rfl)
    (of_decide_eq_true (by kernel_rfl)) (by unfold Func.isWrapper; first | (rw [if_pos (by decide +kernel)]; kernel_rfl) | (rw [if_neg (by decide +kernel)]; exact ⟨rfl, rfl⟩))
    (fun os started H enc _ => lifted os started H enc)

theorem maskOrder_card_holds : Rows.MaskOrderCardSaid :=
  Claim7.holds_tied_plain_at .later [] [.data, .widerDeep] true (true, "2349a5930ca399da8a331d5a597aabad50a32acd80645de4e52e2bab3b08e029") false
    maskOrder_holds (fun _ h => by cases h) (by kernel_rfl) (fun _ h => by cases h) maskOrder_row_tie rfl ⟨rfl, rfl⟩ (by kernel_rfl) rfl
    (fun f fn hf hfn => by
      obtain rfl : f = 9 := Option.some.inj ((show Tryd.prog.funcNamed "lamplighter/lamplighterlaw22.MaskOrder" = some 9 by kernel_rfl).symm.trans hf) |>.symm
      obtain rfl : fn = Tryd.f9 := (Option.some.inj (Tryd.func9.symm.trans hfn)).symm
      exact ⟨by kernel_rfl, fun j t ht => by
        have hp : (Tryd.f9.params.toList.all fun t => !Tryd.prog.wantsStandIn t) = true := by kernel_rfl
        have := List.all_eq_true.1 hp t (List.mem_of_getElem? (by rw [Array.getElem?_toList]; exact ht))
        have hq : Tryd.prog.wantsStandIn t = false := by simpa using this
        exact hq⟩)
    (by kernel_rfl)
#print axioms maskOrder_card_holds
end Go.Proofs.YtenhcejelicjfaaDoor
