/- LinesSets: called with any arguments of its types, in whatever world lays the listed package variables as the text does, the function returns true and turns nothing that was there. The condition: the row's own, 'laid'. -/
import Derived.Test.YtenhcejelicjfaaDoorRows
import Derived.Test.YtenhcejelicjfaaDoorCards
import Derived.Test.YtenhcejelicjfaaDoorTie
import Derived.Test.YtenhcejelicjfaaDoorChecked
import Derived.Test.YtenhcejelicjfaaDoorAgLnK
import Derived.Test.YtenhcejelicjfaaDoorAgArg2
import Derived.Test.YtenhcejelicjfaaDoorAgArgs
import Derived.LaidMore
import Derived.MakeChecks
import Derived.SevenTiedAt
namespace Go.Proofs.YtenhcejelicjfaaDoor
open Go.ChangeShapes Go.WideShapes Go.ChangeAt Go.RowKit Go.MakeChecks AG
set_option maxRecDepth 100000

theorem own : ownKnob Tryd.prog.godebug = none := by kernel_rfl
theorem laidOut : laidOutB Tryd.prog = true := by kernel_rfl
/-- The blocks at the start: the listed table, and two variables of which nothing is said. -/
def blocks : List ABlk := [.cells tab32 false, .dead, .dead]
theorem start_ok {w : World} (h : laidMetH Tryd.prog Rows.linesSetsRow.laid w) : ∃ ρ, MR Tryd.prog ρ (memOf blocks) w := by
  rw [laidMetH_plain _ _ _ (by kernel_rfl)] at h
  have hd : ("math/bits.deBruijn32tab", Rows.laid_math_bits_deBruijn32tab) ∈ Rows.linesSetsRow.laid := List.mem_singleton.2 rfl
  have h0 := flat_blk h hd (g := 0) (t := ((Tryd.prog.globals[0]?).map (·.type)).getD 0) (k := 8) (l := tab32) (by kernel_rfl) (by kernel_rfl) (by kernel_rfl)
  refine ⟨[⟨0, 0, 0⟩, ⟨1, 0, 0⟩, ⟨2, 0, 0⟩], MR.of_list rfl (by decide) (fun g hg => ?_) (fun i b hb => ?_) (by decide +kernel)⟩
  · have : g < 3 := hg
    match g, this with
    | 0, _ => exact ⟨_, rfl, rfl, rfl⟩
    | 1, _ => exact ⟨_, rfl, rfl, rfl⟩
    | 2, _ => exact ⟨_, rfl, rfl, rfl⟩
  · match i with
    | 0 => cases hb; exact ⟨_, rfl, h0 _⟩
    | 1 => cases hb; exact ⟨_, rfl, trivial⟩
    | 2 => cases hb; exact ⟨_, rfl, trivial⟩
    | i + 3 => simp [blocks] at hb

theorem door_met (os : Os) (args : Array Value) : laidMetH Tryd.prog Rows.linesSetsRow.laid ((World.doorLaid Tryd.prog 151 os).forCall (fun _ _ => 0) ⟨#[], args, []⟩).memory := by
  rw [laidMetH_plain _ _ _ (by kernel_rfl)]
  exact laidMet_of_run' 8 (by kernel_rfl) (by kernel_rfl)

theorem lives_ok (X : ABlk) : ∃ m', run A 1000 11 [] (memOf (blocks ++ [X])) = some (.bool true, m') ∧ m'.get 3 = some X ∧ m'.n = 20 ∧ m'.get 0 = some (.cells tab32 false) := by
  have h : (run A 1000 11 [] (memOf (blocks ++ [X]))).map (fun p => (p.1, p.2.get 3, p.2.n, p.2.get 0)) = some (.bool true, some X, 20, some (.cells tab32 false)) := by kernel_rfl
  obtain ⟨⟨v, m'⟩, h1, h2⟩ := Option.map_eq_some_iff.1 h
  simp only [Prod.mk.injEq] at h2
  obtain ⟨rfl, h3, h4, h5⟩ := h2
  exact ⟨m', h1, h3, h4, h5⟩

theorem int_row (cs : List Value) (h : Ints [.i64] cs) : ∃ x : Int, True ∧ ∀ ρ : Rho, VRs ρ (iC x) cs := by
  obtain ⟨x, r1, rfl, _, rfl⟩ := h
  refine ⟨x, trivial, fun ρ => ?_⟩
  simp [iC, VRs, VR]

theorem is_of {m : Mem} {v : AV} {b : ABlk} {l : List Int} (h : sliceArg iC 1 3 v b l) (hm : m.get 3 = some b) : IS m v l := by
  rcases h with ⟨rfl, _, rfl⟩ | ⟨cap, rfl, ⟨_, rfl⟩ | rfl⟩
  · exact .inl ⟨rfl, rfl⟩
  · exact .inr ⟨3, 0, some cap, 1, rfl, fun i x hx => by cases hx⟩
  · exact .inr ⟨3, 0, some cap, 1, rfl, fun i x hx => ⟨_, _, hm, flat_cells iC 1 (fun _ => rfl) hx⟩⟩

theorem lifted (os : Os) (started : os.Started) (H : Type) (enc : TypeId × Value → H) :
    ReturnsInHanded {} Tryd.checked os 4 .any (fun w args => (Rows.linesSetsSpec.pre enc Tryd.prog Tryd.f4 [] false w args ∧ laidMetH Tryd.prog Rows.linesSetsRow.laid w) ∧ sizedMet enc Tryd.prog Tryd.f4 (OpenSpec.ofChange Rows.linesSetsSpec) false w args)
      (Rows.linesSetsSpec.post enc Tryd.prog Tryd.f4 false true false false) := by
  refine returnsInHanded_of_change_and (C := Tryd.checked) (X := fun w _ => laidMetH Tryd.prog Rows.linesSetsRow.laid w) (fun _ _ _ hh h => h.of_heap hh) own started (by kernel_rfl) Tryd.func4
    (ChangeSpec.witness_shaped (enc := enc) (C := Tryd.checked) (os := os) (X := fun w _ => laidMetH Tryd.prog Rows.linesSetsRow.laid w) false (World.doorLaid Tryd.prog 151 os) #[.int .u32 0, .slice none 0 0] 8 rfl (World.shaped_of_RefB (by kernel_rfl) (by kernel_rfl)) (by kernel_rfl) (by kernel_rfl) (by kernel_rfl) (door_met os _)) ?_
  intro W base args ds gs before hval hW _ _ hL _
  have hW' := hW
  obtain ⟨p, q, hA0, hV, rfl, hfz, hnd⟩ := hW'
  have hA : DataW.TrodAll enc Tryd.prog W 0 (fun _ => true) true [((Tryd.f4.params[0]?).getD 0), ((Tryd.f4.params[1]?).getD 0)] args.toList ds p := hA0
  obtain ⟨v0, vs0, d0, ds0, p0, q0, e0, rfl, rfl, h0, hA0⟩ := trodAll_cons hA
  obtain ⟨v1, vs1, d1, ds1, p1, q1, e1, rfl, rfl, h1, hA1⟩ := trodAll_cons hA0
  obtain ⟨en, rfl, rfl⟩ := trodAll_nil hA1
  have ea : args.toList = [v0, v1] := by rw [e0, e1, en]
  have w0 := hval 0 _ v0 rfl (by rw [← Array.getElem?_toList, ea]; rfl)
  have w1 := hval 1 _ v1 rfl (by rw [← Array.getElem?_toList, ea]; rfl)
  obtain ⟨x0, ev0, _, _, wf0⟩ := open_int (k := .u32) (by kernel_rfl) w0 h0
  obtain ⟨P, eu0⟩ := u32_of wf0
  rw [eu0] at ev0
  obtain ⟨av1, b1, x1, l, sa1, R1, len1, vr1⟩ := slice_arg (e := (match Tryd.prog.underlying ((Tryd.f4.params[1]?).getD 0) with | some (.slice e) => e | _ => 0)) (by kernel_rfl) w1 h1 (n := 8) (ks := [.i64]) (by kernel_rfl) (by kernel_rfl) (by decide) iC (fun _ => True) (fun _ => rfl) int_row 3
  obtain ⟨ρ, hm0⟩ := start_ok hL
  have hlen : ρ.length = 3 := hm0.len
  have hx : (ρ ++ [x1])[3]? = some x1 := by rw [List.getElem?_append_right (by omega), hlen]; rfl
  obtain ⟨vr, br⟩ := vr1 _ hx
  have hm := hm0.more (bs' := [b1]) (by decide +kernel) (by simp [sa1.own]) (show 3 + 1 ≤ 2 ^ depth by decide) [x1] rfl (fun i b hb => by
    match i with
    | 0 => cases hb; exact ⟨x1, rfl, br⟩
    | i + 1 => cases hb)
  obtain ⟨m', hl, hg, hn, ht⟩ := lives_ok b1
  obtain ⟨m2, hr⟩ := sets_run 1000 (by omega) P _ m' hl av1 l (is_of sa1 hg) ht (by rw [hn]; decide)
  have hc := law_calls A_ok hr hm (rargs := args) (by
    rw [ea]
    simp only [VRs]
    exact ⟨_, _, rfl, (by rw [ev0]; simp [U, VR]), _, _, rfl, vr, rfl⟩) (show 4 ≤ 2 ^ depth by decide) (by simp only [List.all_append, List.all_cons, List.all_nil, sa1.own]; decide +kernel)
  obtain ⟨rfl, rfl⟩ := trodVars_none hV
  refine hc.mono fun e W' ⟨he, hb⟩ => ?_
  subst he
  exact ⟨_, rfl, law_post (tb := (Tryd.f4.resultTypes[0]?).getD 0) (by kernel_rfl) (by kernel_rfl) rfl hW rfl laidOut (by kernel_rfl) hb⟩

theorem linesSets_holds : Rows.LinesSetsSaid :=
  OpenClaim.holds_of_wide 4 Tryd.f4 rfl rfl rfl rfl rfl rfl rfl ⟨rfl, rfl, rfl, rfl, rfl⟩ rfl rfl rfl rfl rfl (by kernel_rfl) Tryd.func4 (by kernel_rfl)
    (of_decide_eq_true (by kernel_rfl)) (by unfold Func.isWrapper; first | (rw [if_pos (by decide +kernel)]; kernel_rfl) | (rw [if_neg (by decide +kernel)]; exact ⟨rfl, rfl⟩))
    (fun os started H enc _ => lifted os started H enc)

theorem linesSets_card_holds : Rows.LinesSetsCardSaid :=
  Claim7.holds_tied_plain_at .later [] [.data] true (true, "2349a5930ca399da8a331d5a597aabad50a32acd80645de4e52e2bab3b08e029") false
    linesSets_holds (fun _ h => by cases h) (by kernel_rfl) (fun _ h => by cases h) linesSets_row_tie rfl ⟨rfl, rfl⟩ (by kernel_rfl) rfl
    (fun f fn hf hfn => by
      obtain rfl : f = 4 := Option.some.inj ((show Tryd.prog.funcNamed "lamplighter/lamplighterlaw02.LinesSets" = some 4 by kernel_rfl).symm.trans hf) |>.symm
      obtain rfl : fn = Tryd.f4 := (Option.some.inj (Tryd.func4.symm.trans hfn)).symm
      exact ⟨by kernel_rfl, fun j t ht => by
        have hp : (Tryd.f4.params.toList.all fun t => !Tryd.prog.wantsStandIn t) = true := by kernel_rfl
        have := List.all_eq_true.1 hp t (List.mem_of_getElem? (by rw [Array.getElem?_toList]; exact ht))
        have hq : Tryd.prog.wantsStandIn t = false := by simpa using this
        exact hq⟩)
    (by kernel_rfl)
#print axioms linesSets_card_holds
end Go.Proofs.YtenhcejelicjfaaDoor
