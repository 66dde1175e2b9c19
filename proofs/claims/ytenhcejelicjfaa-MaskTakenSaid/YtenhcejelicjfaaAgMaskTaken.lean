/- MaskTaken: called with any arguments of its types the function returns true and turns nothing that was there. There is no condition. -/
import Derived.Test.YtenhcejelicjfaaRows
import Derived.Test.YtenhcejelicjfaaChecked
import Derived.Test.YtenhcejelicjfaaAgMt5
import Derived.Test.YtenhcejelicjfaaAgArg2
import Derived.ProofKit
import Derived.OpenShut
namespace Go.Proofs.Ytenhcejelicjfaa
open Go.ChangeShapes Go.WideShapes Go.ChangeAt Go.RowKit AG
set_option maxRecDepth 100000

theorem own : ownKnob Try.prog.godebug = none := by kernel_rfl
theorem laidOut : laidOutB Try.prog = true := by kernel_rfl

theorem lives_ok (X : ABlk) : ∃ m', run A 1000 5 [] (memOf [X]) = some (.bool true, m') ∧ m'.get 0 = some X ∧ m'.n = 5 := by
  have h : (run A 1000 5 [] (memOf [X])).map (fun p => (p.1, p.2.get 0, p.2.n)) = some (.bool true, some X, 5) := by kernel_rfl
  obtain ⟨⟨v, m'⟩, h1, h2⟩ := Option.map_eq_some_iff.1 h
  simp only [Prod.mk.injEq] at h2
  obtain ⟨rfl, h3, h4⟩ := h2
  exact ⟨m', h1, h3, h4⟩

theorem vec_row (cs : List Value) (h : Ints [.i64, .i64, .i64] cs) : ∃ x : V, True ∧ ∀ ρ : Rho, VRs ρ x.c cs := by
  obtain ⟨x, r1, rfl, _, y, r2, rfl, _, z, r3, rfl, _, rfl⟩ := h
  refine ⟨⟨x, y, z⟩, trivial, fun ρ => ?_⟩
  simp [V.c, VRs, VR]
theorem mk_of {ρ : Rho} {cs : Array Value} (h : Ints [.u32, .u32, .i64, .i64] cs.toList) : ∃ a : Mk, VR ρ a.av (.agg cs) := by
  obtain ⟨x, r1, e1, w1, y, r2, rfl, w2, z, r3, rfl, _, t, r4, rfl, _, rfl⟩ := h
  obtain ⟨b, hb⟩ := u32_of w1
  obtain ⟨c, hc⟩ := u32_of w2
  rw [hb, hc] at e1
  refine ⟨⟨b, c, z, t⟩, ?_⟩
  simp only [Mk.av, mkA, U, VR]
  refine ⟨cs, rfl, ?_⟩
  rw [e1]
  simp [VRs, VR]

theorem vs_of {m : Mem} {v : AV} {b : ABlk} {l : List V} (h : sliceArg V.c 3 0 v b l) (hm : m.get 0 = some b) : VS m v l := by
  rcases h with ⟨rfl, _, rfl⟩ | ⟨cap, rfl, ⟨_, rfl⟩ | rfl⟩
  · exact .inl ⟨rfl, rfl⟩
  · exact .inr ⟨0, 0, some cap, 3, rfl, fun i x hx => by cases hx⟩
  · exact .inr ⟨0, 0, some cap, 3, rfl, fun i x hx => ⟨_, _, hm, flat_cells V.c 3 (fun _ => rfl) hx⟩⟩
theorem no_globals : Try.prog.globals.size = 0 := by kernel_rfl

theorem lifted (os : Os) (started : os.Started) (H : Type) (enc : TypeId × Value → H) :
    ReturnsInHanded {} Try.checked os 4 .any (Rows.maskTakenSpec.pre6 enc Try.prog Try.f4 Rows.maskTakenRow.domain false) (Rows.maskTakenSpec.post enc Try.prog Try.f4 false true false false) := by
  refine returnsInHanded_of_change (C := Try.checked) own started (by kernel_rfl) Try.func4
    (ChangeSpec.witness6 (enc := enc) (C := Try.checked) false ⟨#[], #[.agg #[.int .u32 0, .int .u32 0, .int .i64 0, .int .i64 0], .agg #[.int .u32 0, .int .u32 0, .int .i64 0, .int .i64 0], .int .u32 0, .int .u32 0, .int .i64 0, .int .i64 0, .slice none 0 0], []⟩ 8 (by kernel_rfl) (by kernel_rfl) (by kernel_rfl) (by kernel_rfl)) ?_
  intro W base args ds gs before hval hW _ _
  have hW' := hW
  obtain ⟨p, q, hA0, hV, rfl, hfz, hnd⟩ := hW'
  have hA : DataW.TrodAll enc Try.prog W 0 (fun _ => true) true [((Try.f4.params[0]?).getD 0), ((Try.f4.params[1]?).getD 0), ((Try.f4.params[2]?).getD 0), ((Try.f4.params[3]?).getD 0), ((Try.f4.params[4]?).getD 0), ((Try.f4.params[5]?).getD 0), ((Try.f4.params[6]?).getD 0)] args.toList ds p := hA0
  obtain ⟨v0, vs0, d0, ds0, p0, q0, e0, rfl, rfl, h0, hA0⟩ := trodAll_cons hA
  obtain ⟨v1, vs1, d1, ds1, p1, q1, e1, rfl, rfl, h1, hA1⟩ := trodAll_cons hA0
  obtain ⟨v2, vs2, d2, ds2, p2, q2, e2, rfl, rfl, h2, hA2⟩ := trodAll_cons hA1
  obtain ⟨v3, vs3, d3, ds3, p3, q3, e3, rfl, rfl, h3, hA3⟩ := trodAll_cons hA2
  obtain ⟨v4, vs4, d4, ds4, p4, q4, e4, rfl, rfl, h4, hA4⟩ := trodAll_cons hA3
  obtain ⟨v5, vs5, d5, ds5, p5, q5, e5, rfl, rfl, h5, hA5⟩ := trodAll_cons hA4
  obtain ⟨v6, vs6, d6, ds6, p6, q6, e6, rfl, rfl, h6, hA6⟩ := trodAll_cons hA5
  obtain ⟨en, rfl, rfl⟩ := trodAll_nil hA6
  have ea : args.toList = [v0, v1, v2, v3, v4, v5, v6] := by rw [e0, e1, e2, e3, e4, e5, e6, en]
  have w0 := hval 0 _ v0 rfl (by rw [← Array.getElem?_toList, ea]; rfl)
  have w1 := hval 1 _ v1 rfl (by rw [← Array.getElem?_toList, ea]; rfl)
  have w2 := hval 2 _ v2 rfl (by rw [← Array.getElem?_toList, ea]; rfl)
  have w3 := hval 3 _ v3 rfl (by rw [← Array.getElem?_toList, ea]; rfl)
  have w4 := hval 4 _ v4 rfl (by rw [← Array.getElem?_toList, ea]; rfl)
  have w5 := hval 5 _ v5 rfl (by rw [← Array.getElem?_toList, ea]; rfl)
  have w6 := hval 6 _ v6 rfl (by rw [← Array.getElem?_toList, ea]; rfl)
  obtain ⟨c0, rfl, ii0⟩ := agg_of h0 (n := 8) (k1 := .u32) (k2 := .u32) (ks := [.i64, .i64]) (by kernel_rfl)
  obtain ⟨c1, rfl, ii1⟩ := agg_of h1 (n := 8) (k1 := .u32) (k2 := .u32) (ks := [.i64, .i64]) (by kernel_rfl)
  obtain ⟨x2, ev2, _, _, wf2⟩ := open_int (k := .u32) (by kernel_rfl) w2 h2
  obtain ⟨S, eu2⟩ := u32_of wf2
  rw [eu2] at ev2
  obtain ⟨x3, ev3, _, _, wf3⟩ := open_int (k := .u32) (by kernel_rfl) w3 h3
  obtain ⟨P, eu3⟩ := u32_of wf3
  rw [eu3] at ev3
  obtain ⟨x4, ev4, _, _, wf4⟩ := open_int (k := .i64) (by kernel_rfl) w4 h4
  obtain ⟨x5, ev5, _, _, wf5⟩ := open_int (k := .i64) (by kernel_rfl) w5 h5
  obtain ⟨av6, b6, x6, l, sa6, R6, len6, vr6⟩ := slice_arg (e := (match Try.prog.underlying ((Try.f4.params[6]?).getD 0) with | some (.slice e) => e | _ => 0)) (by kernel_rfl) w6 h6 (n := 8) (ks := [.i64, .i64, .i64]) (by kernel_rfl) (by kernel_rfl) (by decide) V.c (fun _ => True) (fun _ => rfl) vec_row 0
  obtain ⟨vr, br⟩ := vr6 [x6] rfl
  have hm : MR Try.prog [x6] (memOf [b6]) W := MR.of_list rfl (show 1 ≤ 2 ^ depth by decide) (fun g hg => by rw [no_globals] at hg; omega) (fun i b hb => by
    match i with
    | 0 => cases hb; exact ⟨x6, rfl, br⟩
    | i + 1 => cases hb) (fun b hb => by
    rcases List.mem_singleton.1 hb with rfl
    exact sa6.own)
  obtain ⟨a, ha⟩ := mk_of (ρ := [x6]) ii0
  obtain ⟨b, hb⟩ := mk_of (ρ := [x6]) ii1
  obtain ⟨m', hl, hg, hn⟩ := lives_ok b6
  obtain ⟨m2, hr⟩ := taken_run 1000 (by omega) a b S P x4 x5 _ m' hl av6 l (vs_of sa6 hg)
  have hc := law_calls A_ok hr hm (rargs := args) (by
    rw [ea]
    simp only [VRs]
    exact ⟨_, _, rfl, ha, _, _, rfl, hb, _, _, rfl, (by rw [ev2]; simp [U, VR]), _, _, rfl, (by rw [ev3]; simp [U, VR]), _, _, rfl, (by rw [ev4]; simp [VR]), _, _, rfl, (by rw [ev5]; simp [VR]), _, _, rfl, vr, rfl⟩) (show 1 ≤ 2 ^ depth by decide) (by simp only [List.all_cons, List.all_nil, sa6.own]; rfl)
  obtain ⟨rfl, rfl⟩ := trodVars_none hV
  refine hc.mono fun e W' ⟨he, hb⟩ => ?_
  subst he
  exact ⟨_, rfl, law_post (tb := (Try.f4.resultTypes[0]?).getD 0) (by kernel_rfl) (by kernel_rfl) rfl hW rfl laidOut (by kernel_rfl) hb⟩

theorem maskTaken_holds : Rows.MaskTakenSaid :=
  OpenClaim.holds_of_wide 4 Try.f4 rfl rfl rfl rfl rfl rfl rfl ⟨rfl, rfl, rfl, rfl, rfl⟩ rfl rfl rfl rfl rfl (by kernel_rfl) Try.func4 (by kernel_rfl)
    (of_decide_eq_true (by kernel_rfl)) (by unfold Func.isWrapper; first | (rw [if_pos (by decide +kernel)]; kernel_rfl) | (rw [if_neg (by decide +kernel)]; exact ⟨rfl, rfl⟩))
    (fun os started H enc _ => lifted os started H enc)
#print axioms maskTaken_holds
end Go.Proofs.Ytenhcejelicjfaa
