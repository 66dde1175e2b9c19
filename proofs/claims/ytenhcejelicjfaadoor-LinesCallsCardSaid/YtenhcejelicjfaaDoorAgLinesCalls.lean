/- LinesCalls: called with any arguments of its types, in whatever world lays the listed package variables as the text does, the function returns true and turns nothing that was there. The condition: the row's own, 'laid'. -/
import Derived.Test.YtenhcejelicjfaaDoorRows
import Derived.Test.YtenhcejelicjfaaDoorCards
import Derived.Test.YtenhcejelicjfaaDoorTie
import Derived.Test.YtenhcejelicjfaaDoorChecked
import Derived.Test.YtenhcejelicjfaaDoorAgLnR
import Derived.Test.YtenhcejelicjfaaDoorAgArg2
import Derived.Test.YtenhcejelicjfaaDoorAgArgs
import Derived.LaidMore
import Derived.MakeChecks
import Derived.SevenTiedAt
namespace Go.Proofs.YtenhcejelicjfaaDoor
open Go.ChangeShapes Go.WideShapes Go.ChangeAt Go.RowKit Go.MakeChecks AG
set_option maxRecDepth 100000

theorem own : ownKnob Tryd.prog.godebug = none := by kernel_rfl
theorem laidOut : laidOutB Tryd.prog = true := by kernel_rfl
/-- The blocks at the start: the listed table, and two variables of which nothing is said. -/
def blocks : List ABlk := [.cells tab32 false, .dead, .dead]
theorem start_ok {w : World} (h : laidMetH Tryd.prog Rows.linesCallsRow.laid w) : ∃ ρ, MR Tryd.prog ρ (memOf blocks) w := by
  rw [laidMetH_plain _ _ _ (by kernel_rfl)] at h
  have hd : ("math/bits.deBruijn32tab", Rows.laid_math_bits_deBruijn32tab) ∈ Rows.linesCallsRow.laid := List.mem_singleton.2 rfl
  have h0 := flat_blk h hd (g := 0) (t := ((Tryd.prog.globals[0]?).map (·.type)).getD 0) (k := 8) (l := tab32) (by kernel_rfl) (by kernel_rfl) (by kernel_rfl)
  refine ⟨[⟨0, 0, 0⟩, ⟨1, 0, 0⟩, ⟨2, 0, 0⟩], MR.of_list rfl (by decide) (fun g hg => ?_) (fun i b hb => ?_) (by decide +kernel)⟩
  · have : g < 3 := hg
    match g, this with
    | 0, _ => exact ⟨_, rfl, rfl, rfl⟩
    | 1, _ => exact ⟨_, rfl, rfl, rfl⟩
    | 2, _ => exact ⟨_, rfl, rfl, rfl⟩
  · match i with
    | 0 => cases hb; exact ⟨_, rfl, h0 _⟩
    | 1 => cases hb; exact ⟨_, rfl, trivial⟩
    | 2 => cases hb; exact ⟨_, rfl, trivial⟩
    | i + 3 => simp [blocks] at hb

theorem door_met (os : Os) (args : Array Value) : laidMetH Tryd.prog Rows.linesCallsRow.laid ((World.doorLaid Tryd.prog 151 os).forCall (fun _ _ => 0) ⟨#[], args, []⟩).memory := by
  rw [laidMetH_plain _ _ _ (by kernel_rfl)]
  exact laidMet_of_run' 8 (by kernel_rfl) (by kernel_rfl)

theorem lives_ok (X Y : ABlk) : ∃ m', run A 1000 11 [] (memOf (blocks ++ [X, Y])) = some (.bool true, m') ∧ m'.get 3 = some X ∧ m'.get 4 = some Y ∧ m'.n = 21 ∧ m'.get 0 = some (.cells tab32 false) := by
  have h : (run A 1000 11 [] (memOf (blocks ++ [X, Y]))).map (fun p => (p.1, p.2.get 3, p.2.get 4, p.2.n, p.2.get 0)) = some (.bool true, some X, some Y, 21, some (.cells tab32 false)) := by kernel_rfl
  obtain ⟨⟨v, m'⟩, h1, h2⟩ := Option.map_eq_some_iff.1 h
  simp only [Prod.mk.injEq] at h2
  obtain ⟨rfl, h3, h4, h5, h6⟩ := h2
  exact ⟨m', h1, h3, h4, h5, h6⟩

theorem vec_row (cs : List Value) (h : Ints [.i64, .i64, .i64] cs) : ∃ x : V, True ∧ ∀ ρ : Rho, VRs ρ x.c cs := by
  obtain ⟨x, r1, rfl, _, y, r2, rfl, _, z, r3, rfl, _, rfl⟩ := h
  refine ⟨⟨x, y, z⟩, trivial, fun ρ => ?_⟩
  simp [V.c, VRs, VR]
theorem int_row (cs : List Value) (h : Ints [.i64] cs) : ∃ x : Int, True ∧ ∀ ρ : Rho, VRs ρ (iC x) cs := by
  obtain ⟨x, r1, rfl, _, rfl⟩ := h
  refine ⟨x, trivial, fun ρ => ?_⟩
  simp [iC, VRs, VR]

theorem rs_of {α : Type} {f : α → List AV} {c B : Nat} (hf : ∀ x, (f x).length = c) {m : Mem} {v : AV} {b : ABlk} {l : List α} (h : sliceArg f c B v b l) (hm : m.get B = some b) : RS f c m v l := by
  rcases h with ⟨rfl, _, rfl⟩ | ⟨cap, rfl, ⟨_, rfl⟩ | rfl⟩
  · exact .inl ⟨rfl, rfl⟩
  · exact .inr ⟨B, 0, some cap, c, rfl, fun i x hx => by cases hx⟩
  · exact .inr ⟨B, 0, some cap, c, rfl, fun i x hx => ⟨_, _, hm, flat_cells f c hf hx⟩⟩

theorem lifted (os : Os) (started : os.Started) (H : Type) (enc : TypeId × Value → H) :
    ReturnsInHanded {} Tryd.checked os 7 .any (fun w args => (Rows.linesCallsSpec.pre enc Tryd.prog Tryd.f7 [] false w args ∧ laidMetH Tryd.prog Rows.linesCallsRow.laid w) ∧ sizedMet enc Tryd.prog Tryd.f7 (OpenSpec.ofChange Rows.linesCallsSpec) false w args)
      (Rows.linesCallsSpec.post enc Tryd.prog Tryd.f7 false true false false) := by
  refine returnsInHanded_of_change_and (C := Tryd.checked) (X := fun w _ => laidMetH Tryd.prog Rows.linesCallsRow.laid w) (fun _ _ _ hh h => h.of_heap hh) own started (by kernel_rfl) Tryd.func7
    (ChangeSpec.witness_shaped (enc := enc) (C := Tryd.checked) (os := os) (X := fun w _ => laidMetH Tryd.prog Rows.linesCallsRow.laid w) false (World.doorLaid Tryd.prog 151 os) #[.int .u32 0, .int .u32 0, .int .i64 0, .int .i64 0, .slice none 0 0, .int .i64 0, .slice none 0 0] 8 rfl (World.shaped_of_RefB (by kernel_rfl) (by kernel_rfl)) (by kernel_rfl) (by kernel_rfl) (by kernel_rfl) (door_met os _)) ?_
  intro W base args ds gs before hval hW _ _ hL _
  have hW' := hW
  obtain ⟨p, q, hA0, hV, rfl, hfz, hnd⟩ := hW'
  have hA : DataW.TrodAll enc Tryd.prog W 0 (fun _ => true) true [((Tryd.f7.params[0]?).getD 0), ((Tryd.f7.params[1]?).getD 0), ((Tryd.f7.params[2]?).getD 0), ((Tryd.f7.params[3]?).getD 0), ((Tryd.f7.params[4]?).getD 0), ((Tryd.f7.params[5]?).getD 0), ((Tryd.f7.params[6]?).getD 0)] args.toList ds p := hA0
  obtain ⟨v0, vs0, d0, ds0, p0, q0, e0, rfl, rfl, h0, hA0⟩ := trodAll_cons hA
  obtain ⟨v1, vs1, d1, ds1, p1, q1, e1, rfl, rfl, h1, hA1⟩ := trodAll_cons hA0
  obtain ⟨v2, vs2, d2, ds2, p2, q2, e2, rfl, rfl, h2, hA2⟩ := trodAll_cons hA1
  obtain ⟨v3, vs3, d3, ds3, p3, q3, e3, rfl, rfl, h3, hA3⟩ := trodAll_cons hA2
  obtain ⟨v4, vs4, d4, ds4, p4, q4, e4, rfl, rfl, h4, hA4⟩ := trodAll_cons hA3
  obtain ⟨v5, vs5, d5, ds5, p5, q5, e5, rfl, rfl, h5, hA5⟩ := trodAll_cons hA4
  obtain ⟨v6, vs6, d6, ds6, p6, q6, e6, rfl, rfl, h6, hA6⟩ := trodAll_cons hA5
  obtain ⟨en, rfl, rfl⟩ := trodAll_nil hA6
  have ea : args.toList = [v0, v1, v2, v3, v4, v5, v6] := by rw [e0, e1, e2, e3, e4, e5, e6, en]
  have w0 := hval 0 _ v0 rfl (by rw [← Array.getElem?_toList, ea]; rfl)
  have w1 := hval 1 _ v1 rfl (by rw [← Array.getElem?_toList, ea]; rfl)
  have w2 := hval 2 _ v2 rfl (by rw [← Array.getElem?_toList, ea]; rfl)
  have w3 := hval 3 _ v3 rfl (by rw [← Array.getElem?_toList, ea]; rfl)
  have w4 := hval 4 _ v4 rfl (by rw [← Array.getElem?_toList, ea]; rfl)
  have w5 := hval 5 _ v5 rfl (by rw [← Array.getElem?_toList, ea]; rfl)
  have w6 := hval 6 _ v6 rfl (by rw [← Array.getElem?_toList, ea]; rfl)
  obtain ⟨x0, ev0, _, _, wf0⟩ := open_int (k := .u32) (by kernel_rfl) w0 h0
  obtain ⟨P, eu0⟩ := u32_of wf0
  rw [eu0] at ev0
  obtain ⟨x1, ev1, _, _, wf1⟩ := open_int (k := .u32) (by kernel_rfl) w1 h1
  obtain ⟨E, eu1⟩ := u32_of wf1
  rw [eu1] at ev1
  obtain ⟨x2, ev2, _, _, wf2⟩ := open_int (k := .i64) (by kernel_rfl) w2 h2
  obtain ⟨x3, ev3, _, _, wf3⟩ := open_int (k := .i64) (by kernel_rfl) w3 h3
  obtain ⟨av4, b4, x4, l, sa4, R4, len4, vr4⟩ := slice_arg (e := (match Tryd.prog.underlying ((Tryd.f7.params[4]?).getD 0) with | some (.slice e) => e | _ => 0)) (by kernel_rfl) w4 h4 (n := 8) (ks := [.i64, .i64, .i64]) (by kernel_rfl) (by kernel_rfl) (by decide) V.c (fun _ => True) (fun _ => rfl) vec_row 3
  obtain ⟨x5, ev5, _, _, wf5⟩ := open_int (k := .i64) (by kernel_rfl) w5 h5
  obtain ⟨av6, b6, x6, u, sa6, R6, len6, vr6⟩ := slice_arg (e := (match Tryd.prog.underlying ((Tryd.f7.params[6]?).getD 0) with | some (.slice e) => e | _ => 0)) (by kernel_rfl) w6 h6 (n := 8) (ks := [.i64]) (by kernel_rfl) (by kernel_rfl) (by decide) iC (fun _ => True) (fun _ => rfl) int_row 4
  obtain ⟨ρ, hm0⟩ := start_ok hL
  have hlen : ρ.length = 3 := hm0.len
  have hx4 : (ρ ++ [x4, x6])[3]? = some x4 := by rw [List.getElem?_append_right (by omega), hlen]; rfl
  have hx6 : (ρ ++ [x4, x6])[4]? = some x6 := by rw [List.getElem?_append_right (by omega), hlen]; rfl
  obtain ⟨vra, bra⟩ := vr4 _ hx4
  obtain ⟨vrb, brb⟩ := vr6 _ hx6
  have hm := hm0.more (bs' := [b4, b6]) (by decide +kernel) (by simp [sa4.own, sa6.own]) (show 3 + 2 ≤ 2 ^ depth by decide) [x4, x6] rfl (fun i b hb => by
    match i with
    | 0 => cases hb; exact ⟨x4, rfl, bra⟩
    | 1 => cases hb; exact ⟨x6, rfl, brb⟩
    | i + 2 => cases hb)
  obtain ⟨m', hl, hga, hgb, hn, ht⟩ := lives_ok b4 b6
  obtain ⟨m2, hr⟩ := calls_run 1000 (by omega) P E x2 x3 x5 _ m' hl av4 l (rs_of (f := V.c) (c := 3) (fun _ => rfl) sa4 hga) av6 u (rs_of (f := iC) (c := 1) (fun _ => rfl) sa6 hgb) ht (by rw [hn]; decide)
  have hc := law_calls A_ok hr hm (rargs := args) (by
    rw [ea]
    simp only [VRs]
    exact ⟨_, _, rfl, (by rw [ev0]; simp [U, VR]), _, _, rfl, (by rw [ev1]; simp [U, VR]), _, _, rfl, (by rw [ev2]; simp [VR]), _, _, rfl, (by rw [ev3]; simp [VR]), _, _, rfl, vra, _, _, rfl, (by rw [ev5]; simp [VR]), _, _, rfl, vrb, rfl⟩) (show 5 ≤ 2 ^ depth by decide) (by simp only [List.all_append, List.all_cons, List.all_nil, sa4.own, sa6.own]; decide +kernel)
  obtain ⟨rfl, rfl⟩ := trodVars_none hV
  refine hc.mono fun e W' ⟨he, hb⟩ => ?_
  subst he
  exact ⟨_, rfl, law_post (tb := (Tryd.f7.resultTypes[0]?).getD 0) (by kernel_rfl) (by kernel_rfl) rfl hW rfl laidOut (by kernel_rfl) hb⟩

theorem linesCalls_holds : Rows.LinesCallsSaid :=
  OpenClaim.holds_of_wide 7 Tryd.f7 rfl rfl rfl rfl rfl rfl rfl ⟨rfl, rfl, rfl, rfl, rfl⟩ rfl rfl rfl rfl rfl (by kernel_rfl) Tryd.func7 (by kernel_rfl)
    (of_decide_eq_true (by kernel_rfl)) (by unfold Func.isWrapper; first | (rw [if_pos (by decide +kernel)]; kernel_rfl) | (rw [if_neg (by decide +kernel)]; exact ⟨rfl, rfl⟩))
    (fun os started H enc _ => lifted os started H enc)

theorem linesCalls_card_holds : Rows.LinesCallsCardSaid :=
  Claim7.holds_tied_plain_at .later [] [.data] true (true, "2349a5930ca399da8a331d5a597aabad50a32acd80645de4e52e2bab3b08e029") false
    linesCalls_holds (fun _ h => by cases h) (by kernel_rfl) (fun _ h => by cases h) linesCalls_row_tie rfl ⟨rfl, rfl⟩ (by kernel_rfl) rfl
    (fun f fn hf hfn => by
      obtain rfl : f = 7 := Option.some.inj ((show Tryd.prog.funcNamed "lamplighter/lamplighterlaw02.LinesCalls" = some 7 by kernel_rfl).symm.trans hf) |>.symm
      obtain rfl : fn = Tryd.f7 := (Option.some.inj (Tryd.func7.symm.trans hfn)).symm
      exact ⟨by kernel_rfl, fun j t ht => by
        have hp : (Tryd.f7.params.toList.all fun t => !Tryd.prog.wantsStandIn t) = true := by kernel_rfl
        have := List.all_eq_true.1 hp t (List.mem_of_getElem? (by rw [Array.getElem?_toList]; exact ht))
        have hq : Tryd.prog.wantsStandIn t = false := by simpa using this
        exact hq⟩)
    (by kernel_rfl)
#print axioms linesCalls_card_holds
end Go.Proofs.YtenhcejelicjfaaDoor
