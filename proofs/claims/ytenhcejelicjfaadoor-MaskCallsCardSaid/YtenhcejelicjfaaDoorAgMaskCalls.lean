/- MaskCalls: called with any arguments of its types, in whatever world lays the listed package variables as the text does, the function returns true and turns nothing that was there. The condition: the row's own, 'laid'. -/
import Derived.Test.YtenhcejelicjfaaDoorRows
import Derived.Test.YtenhcejelicjfaaDoorCards
import Derived.Test.YtenhcejelicjfaaDoorTie
import Derived.Test.YtenhcejelicjfaaDoorChecked
import Derived.Test.YtenhcejelicjfaaDoorAgMc11
import Derived.Test.YtenhcejelicjfaaDoorAgArg2
import Derived.Test.YtenhcejelicjfaaDoorAgArgs
import Derived.LaidMore
import Derived.MakeChecks
import Derived.SevenTiedAt
namespace Go.Proofs.YtenhcejelicjfaaDoor
open Go.ChangeShapes Go.WideShapes Go.ChangeAt Go.RowKit Go.MakeChecks AG
set_option maxRecDepth 100000

theorem own : ownKnob Tryd.prog.godebug = none := by kernel_rfl
theorem laidOut : laidOutB Tryd.prog = true := by kernel_rfl
/-- The blocks at the start: a variable of which nothing is said, the slice, the signs, what the slice leads to. -/
def blocks : List ABlk := [.dead, .cells [.slice 3 0 25 (some 25) 6] false, .cells signs false, .cells kinds false]
theorem start_ok {w : World} (h : laidMetH Tryd.prog Rows.maskCallsRow.laid w) : ∃ ρ, MR Tryd.prog ρ (memOf blocks) w := by
  rw [laidMetH_plain _ _ _ (by kernel_rfl)] at h
  have hd1 : ("lamplighter/word.signs", Rows.laid_lamplighter_word_signs) ∈ Rows.maskCallsRow.laid := List.mem_cons_self ..
  have hd2 : ("lamplighter/code.kinds", Rows.laid_lamplighter_code_kinds) ∈ Rows.maskCallsRow.laid := List.mem_cons_of_mem _ (List.mem_cons_self ..)
  have h2 := flat_blk h hd1 (g := 2) (t := ((Tryd.prog.globals[2]?).map (·.type)).getD 0) (k := 8) (l := signs) (by kernel_rfl) (by kernel_rfl) (by kernel_rfl)
  obtain ⟨x, h1⟩ := slice_blk h hd2 (g := 1) (t := ((Tryd.prog.globals[1]?).map (·.type)).getD 0) (e := (match Tryd.prog.underlying (((Tryd.prog.globals[1]?).map (·.type)).getD 0) with | some (.slice e) => e | _ => 0)) (k := 8) (len := 24) (c := 5) (l := kinds) (by kernel_rfl) (by kernel_rfl) (by kernel_rfl) (by kernel_rfl) (by kernel_rfl) (by kernel_rfl) (by decide +kernel)
  refine ⟨[⟨0, 0, 0⟩, ⟨1, 0, 0⟩, ⟨2, 0, 0⟩, x], MR.of_list rfl (by decide) (fun g hg => ?_) (fun i b hb => ?_) (by decide +kernel)⟩
  · have : g < 3 := hg
    match g, this with
    | 0, _ => exact ⟨_, rfl, rfl, rfl⟩
    | 1, _ => exact ⟨_, rfl, rfl, rfl⟩
    | 2, _ => exact ⟨_, rfl, rfl, rfl⟩
  · match i with
    | 0 => cases hb; exact ⟨_, rfl, trivial⟩
    | 1 => cases hb; exact ⟨_, rfl, (h1 _ 3 rfl).1⟩
    | 2 => cases hb; exact ⟨_, rfl, h2 _⟩
    | 3 => cases hb; exact ⟨_, rfl, (h1 _ 3 rfl).2⟩
    | i + 4 => simp [blocks] at hb

theorem door_met (os : Os) (args : Array Value) : laidMetH Tryd.prog Rows.maskCallsRow.laid ((World.doorLaid Tryd.prog 151 os).forCall (fun _ _ => 0) ⟨#[], args, []⟩).memory := by
  rw [laidMetH_plain _ _ _ (by kernel_rfl)]
  exact laidMet_of_run' 8 (by kernel_rfl) (by kernel_rfl)

theorem lives_ok (X Y : ABlk) : ∃ m', run A 1000 29 [] (memOf (blocks ++ [X, Y])) = some (.bool true, m') ∧ Tab m' ∧ m'.get 4 = some X ∧ m'.get 5 = some Y ∧ m'.n ≤ 100 := by
  have h : (run A 1000 29 [] (memOf (blocks ++ [X, Y]))).map (fun p => (p.1, p.2.get 1, p.2.get 2, p.2.get 3, p.2.get 4, p.2.get 5, decide (p.2.n ≤ 100))) = some (.bool true, some (.cells [.slice 3 0 25 (some 25) 6] false), some (.cells signs false), some (.cells kinds false), some X, some Y, true) := by kernel_rfl
  obtain ⟨⟨v, m'⟩, h1, h2⟩ := Option.map_eq_some_iff.1 h
  simp only [Prod.mk.injEq, decide_eq_true_eq] at h2
  obtain ⟨rfl, h3, h4, h5, h6, h7, h8⟩ := h2
  exact ⟨m', h1, ⟨h3, h4, h5⟩, h6, h7, h8⟩

theorem vec_row (cs : List Value) (h : Ints [.i64, .i64, .i64] cs) : ∃ x : V, True ∧ ∀ ρ : Rho, VRs ρ x.c cs := by
  obtain ⟨x, r1, rfl, _, y, r2, rfl, _, z, r3, rfl, _, rfl⟩ := h
  refine ⟨⟨x, y, z⟩, trivial, fun ρ => ?_⟩
  simp [V.c, VRs, VR]
theorem word_row (cs : List Value) (h : Ints [.u32] cs) : ∃ x : BitVec 32, True ∧ ∀ ρ : Rho, VRs ρ (uC x) cs := by
  obtain ⟨x, r1, rfl, w, rfl⟩ := h
  obtain ⟨b, hb⟩ := u32_of w
  refine ⟨b, trivial, fun ρ => ?_⟩
  rw [hb]
  simp [uC, U, VRs, VR]
theorem mk_of {ρ : Rho} {cs : Array Value} (h : Ints [.u32, .u32, .i64, .i64] cs.toList) : ∃ a : Mk, VR ρ a.av (.agg cs) := by
  obtain ⟨x, r1, e1, w1, y, r2, rfl, w2, z, r3, rfl, _, t, r4, rfl, _, rfl⟩ := h
  obtain ⟨b, hb⟩ := u32_of w1
  obtain ⟨c, hc⟩ := u32_of w2
  rw [hb, hc] at e1
  refine ⟨⟨b, c, z, t⟩, ?_⟩
  simp only [Mk.av, mkA, U, VR]
  refine ⟨cs, rfl, ?_⟩
  rw [e1]
  simp [VRs, VR]
theorem ins_of {ρ : Rho} {cs : Array Value} (h : Ints [.i64, .i64, .i64, .i64] cs.toList) : ∃ x y z t : Int, VR ρ (insA x y z t) (.agg cs) := by
  obtain ⟨x, r1, e1, _, y, r2, rfl, _, z, r3, rfl, _, t, r4, rfl, _, rfl⟩ := h
  refine ⟨x, y, z, t, ?_⟩
  simp only [insA, VR]
  refine ⟨cs, rfl, ?_⟩
  rw [e1]
  simp [VRs, VR]
theorem rs_of {α : Type} {f : α → List AV} {c B : Nat} (hf : ∀ x, (f x).length = c) {m : Mem} {v : AV} {b : ABlk} {l : List α} (h : sliceArg f c B v b l) (hm : m.get B = some b) : RS f c m v l := by
  rcases h with ⟨rfl, _, rfl⟩ | ⟨cap, rfl, ⟨_, rfl⟩ | rfl⟩
  · exact .inl ⟨rfl, rfl⟩
  · exact .inr ⟨B, 0, some cap, c, rfl, fun i x hx => by cases hx⟩
  · exact .inr ⟨B, 0, some cap, c, rfl, fun i x hx => ⟨_, _, hm, flat_cells f c hf hx⟩⟩

theorem lifted (os : Os) (started : os.Started) (H : Type) (enc : TypeId × Value → H) :
    ReturnsInHanded {} Tryd.checked os 10 .any (fun w args => (Rows.maskCallsSpec.pre enc Tryd.prog Tryd.f10 [] false w args ∧ laidMetH Tryd.prog Rows.maskCallsRow.laid w) ∧ sizedMet enc Tryd.prog Tryd.f10 (OpenSpec.ofChange Rows.maskCallsSpec) false w args)
      (Rows.maskCallsSpec.post enc Tryd.prog Tryd.f10 false true false false) := by
  refine returnsInHanded_of_change_and (C := Tryd.checked) (X := fun w _ => laidMetH Tryd.prog Rows.maskCallsRow.laid w) (fun _ _ _ hh h => h.of_heap hh) own started (by kernel_rfl) Tryd.func10
    (ChangeSpec.witness_shaped (enc := enc) (C := Tryd.checked) (os := os) (X := fun w _ => laidMetH Tryd.prog Rows.maskCallsRow.laid w) false (World.doorLaid Tryd.prog 151 os) #[.agg #[.int .u32 0, .int .u32 0, .int .i64 0, .int .i64 0], .agg #[.int .u32 0, .int .u32 0, .int .i64 0, .int .i64 0], .agg #[.int .i64 0, .int .i64 0, .int .i64 0, .int .i64 0], .int .u32 0, .int .i64 0, .slice none 0 0, .slice none 0 0] 8 rfl (World.shaped_of_RefB (by kernel_rfl) (by kernel_rfl)) (by kernel_rfl) (by kernel_rfl) (by kernel_rfl) (door_met os _)) ?_
  intro W base args ds gs before hval hW _ _ hL _
  have hW' := hW
  obtain ⟨p, q, hA0, hV, rfl, hfz, hnd⟩ := hW'
  have hA : DataW.TrodAll enc Tryd.prog W 0 (fun _ => true) true [((Tryd.f10.params[0]?).getD 0), ((Tryd.f10.params[1]?).getD 0), ((Tryd.f10.params[2]?).getD 0), ((Tryd.f10.params[3]?).getD 0), ((Tryd.f10.params[4]?).getD 0), ((Tryd.f10.params[5]?).getD 0), ((Tryd.f10.params[6]?).getD 0)] args.toList ds p := hA0
  obtain ⟨v0, vs0, d0, ds0, p0, q0, e0, rfl, rfl, h0, hA0⟩ := trodAll_cons hA
  obtain ⟨v1, vs1, d1, ds1, p1, q1, e1, rfl, rfl, h1, hA1⟩ := trodAll_cons hA0
  obtain ⟨v2, vs2, d2, ds2, p2, q2, e2, rfl, rfl, h2, hA2⟩ := trodAll_cons hA1
  obtain ⟨v3, vs3, d3, ds3, p3, q3, e3, rfl, rfl, h3, hA3⟩ := trodAll_cons hA2
  obtain ⟨v4, vs4, d4, ds4, p4, q4, e4, rfl, rfl, h4, hA4⟩ := trodAll_cons hA3
  obtain ⟨v5, vs5, d5, ds5, p5, q5, e5, rfl, rfl, h5, hA5⟩ := trodAll_cons hA4
  obtain ⟨v6, vs6, d6, ds6, p6, q6, e6, rfl, rfl, h6, hA6⟩ := trodAll_cons hA5
  obtain ⟨en, rfl, rfl⟩ := trodAll_nil hA6
  have ea : args.toList = [v0, v1, v2, v3, v4, v5, v6] := by rw [e0, e1, e2, e3, e4, e5, e6, en]
  have w0 := hval 0 _ v0 rfl (by rw [← Array.getElem?_toList, ea]; rfl)
  have w1 := hval 1 _ v1 rfl (by rw [← Array.getElem?_toList, ea]; rfl)
  have w2 := hval 2 _ v2 rfl (by rw [← Array.getElem?_toList, ea]; rfl)
  have w3 := hval 3 _ v3 rfl (by rw [← Array.getElem?_toList, ea]; rfl)
  have w4 := hval 4 _ v4 rfl (by rw [← Array.getElem?_toList, ea]; rfl)
  have w5 := hval 5 _ v5 rfl (by rw [← Array.getElem?_toList, ea]; rfl)
  have w6 := hval 6 _ v6 rfl (by rw [← Array.getElem?_toList, ea]; rfl)
  obtain ⟨c0, rfl, ii0⟩ := agg_of h0 (n := 8) (k1 := .u32) (k2 := .u32) (ks := [.i64, .i64]) (by kernel_rfl)
  obtain ⟨c1, rfl, ii1⟩ := agg_of h1 (n := 8) (k1 := .u32) (k2 := .u32) (ks := [.i64, .i64]) (by kernel_rfl)
  obtain ⟨c2, rfl, ii2⟩ := agg_of h2 (n := 8) (k1 := .i64) (k2 := .i64) (ks := [.i64, .i64]) (by kernel_rfl)
  obtain ⟨x3, ev3, _, _, wf3⟩ := open_int (k := .u32) (by kernel_rfl) w3 h3
  obtain ⟨S, eu3⟩ := u32_of wf3
  rw [eu3] at ev3
  obtain ⟨x4, ev4, _, _, wf4⟩ := open_int (k := .i64) (by kernel_rfl) w4 h4
  obtain ⟨av5, b5, x5, l, sa5, R5, len5, vr5⟩ := slice_arg (e := (match Tryd.prog.underlying ((Tryd.f10.params[5]?).getD 0) with | some (.slice e) => e | _ => 0)) (by kernel_rfl) w5 h5 (n := 8) (ks := [.i64, .i64, .i64]) (by kernel_rfl) (by kernel_rfl) (by decide) V.c (fun _ => True) (fun _ => rfl) vec_row 4
  obtain ⟨av6, b6, x6, u, sa6, R6, len6, vr6⟩ := slice_arg (e := (match Tryd.prog.underlying ((Tryd.f10.params[6]?).getD 0) with | some (.slice e) => e | _ => 0)) (by kernel_rfl) w6 h6 (n := 8) (ks := [.u32]) (by kernel_rfl) (by kernel_rfl) (by decide) uC (fun _ => True) (fun _ => rfl) word_row 5
  obtain ⟨ρ, hm0⟩ := start_ok hL
  have hlen : ρ.length = 4 := hm0.len
  have hx5 : (ρ ++ [x5, x6])[4]? = some x5 := by rw [List.getElem?_append_right (by omega), hlen]; rfl
  have hx6 : (ρ ++ [x5, x6])[5]? = some x6 := by rw [List.getElem?_append_right (by omega), hlen]; rfl
  obtain ⟨vra, bra⟩ := vr5 _ hx5
  obtain ⟨vrb, brb⟩ := vr6 _ hx6
  have hm := hm0.more (bs' := [b5, b6]) (by decide +kernel) (by simp [sa5.own, sa6.own]) (show 4 + 2 ≤ 2 ^ depth by decide) [x5, x6] rfl (fun i b hb => by
    match i with
    | 0 => cases hb; exact ⟨x5, rfl, bra⟩
    | 1 => cases hb; exact ⟨x6, rfl, brb⟩
    | i + 2 => cases hb)
  obtain ⟨a, ha⟩ := mk_of (ρ := ρ ++ [x5, x6]) ii0
  obtain ⟨b, hb⟩ := mk_of (ρ := ρ ++ [x5, x6]) ii1
  obtain ⟨o, x, y, z, hi⟩ := ins_of (ρ := ρ ++ [x5, x6]) ii2
  obtain ⟨m', hl, hT, hga, hgb, hn⟩ := lives_ok b5 b6
  obtain ⟨m2, hr⟩ := mcalls_run 1000 (by omega) a b o x y z S x4 _ m' hl hT av5 l (rs_of (f := V.c) (c := 3) (fun _ => rfl) sa5 hga) av6 u (rs_of (f := uC) (c := 1) (fun _ => rfl) sa6 hgb) (Nat.le_trans (Nat.add_le_add_right hn 20) (by decide))
  have hc := law_calls A_ok hr hm (rargs := args) (by
    rw [ea]
    simp only [VRs]
    exact ⟨_, _, rfl, ha, _, _, rfl, hb, _, _, rfl, hi, _, _, rfl, (by rw [ev3]; simp [U, VR]), _, _, rfl, (by rw [ev4]; simp [VR]), _, _, rfl, vra, _, _, rfl, vrb, rfl⟩) (show 6 ≤ 2 ^ depth by decide) (by simp only [List.all_append, List.all_cons, List.all_nil, sa5.own, sa6.own]; decide +kernel)
  obtain ⟨rfl, rfl⟩ := trodVars_none hV
  refine hc.mono fun e W' ⟨he, hb⟩ => ?_
  subst he
  exact ⟨_, rfl, law_post (tb := (Tryd.f10.resultTypes[0]?).getD 0) (by kernel_rfl) (by kernel_rfl) rfl hW rfl laidOut (by kernel_rfl) hb⟩

theorem maskCalls_holds : Rows.MaskCallsSaid :=
  OpenClaim.holds_of_wide 10 Tryd.f10 rfl rfl rfl rfl rfl rfl rfl ⟨rfl, rfl, rfl, rfl, rfl⟩ rfl rfl rfl rfl rfl (by kernel_rfl) Tryd.func10 (by kernel_rfl)
    (of_decide_eq_true (by kernel_rfl)) (by unfold Func.isWrapper; first | (rw [if_pos (by decide +kernel)]; kernel_rfl) | (rw [if_neg (by decide +kernel)]; exact ⟨rfl, rfl⟩))
    (fun os started H enc _ => lifted os started H enc)

theorem maskCalls_card_holds : Rows.MaskCallsCardSaid :=
  Claim7.holds_tied_plain_at .later [] [.data, .widerDeep] true (true, "2349a5930ca399da8a331d5a597aabad50a32acd80645de4e52e2bab3b08e029") false
    maskCalls_holds (fun _ h => by cases h) (by kernel_rfl) (fun _ h => by cases h) maskCalls_row_tie rfl ⟨rfl, rfl⟩ (by kernel_rfl) rfl
    (fun f fn hf hfn => by
      obtain rfl : f = 10 := Option.some.inj ((show Tryd.prog.funcNamed "lamplighter/lamplighterlaw22.MaskCalls" = some 10 by kernel_rfl).symm.trans hf) |>.symm
      obtain rfl : fn = Tryd.f10 := (Option.some.inj (Tryd.func10.symm.trans hfn)).symm
      exact ⟨by kernel_rfl, fun j t ht => by
        have hp : (Tryd.f10.params.toList.all fun t => !Tryd.prog.wantsStandIn t) = true := by kernel_rfl
        have := List.all_eq_true.1 hp t (List.mem_of_getElem? (by rw [Array.getElem?_toList]; exact ht))
        have hq : Tryd.prog.wantsStandIn t = false := by simpa using this
        exact hq⟩)
    (by kernel_rfl)
#print axioms maskCalls_card_holds
end Go.Proofs.YtenhcejelicjfaaDoor
