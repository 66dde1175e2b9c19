/- MaskCloses: called with any arguments of its types the function returns true and turns nothing that was there. There is no condition. -/
import Derived.Test.YtenhcejelicjfaaRows
import Derived.Test.YtenhcejelicjfaaChecked
import Derived.Test.YtenhcejelicjfaaAgMk2
import Derived.Test.YtenhcejelicjfaaAgArg2
import Derived.ProofKit
import Derived.OpenShut
namespace Go.Proofs.Ytenhcejelicjfaa
open Go.ChangeShapes Go.WideShapes Go.ChangeAt Go.RowKit AG
set_option maxRecDepth 100000

theorem own : ownKnob Try.prog.godebug = none := by kernel_rfl
theorem laidOut : laidOutB Try.prog = true := by kernel_rfl

theorem lives_ok (X : ABlk) : ∃ m', run A 1000 5 [] (memOf [X]) = some (.bool true, m') ∧ m'.get 0 = some X ∧ m'.n = 5 := by
  have h : (run A 1000 5 [] (memOf [X])).map (fun p => (p.1, p.2.get 0, p.2.n)) = some (.bool true, some X, 5) := by kernel_rfl
  obtain ⟨⟨v, m'⟩, h1, h2⟩ := Option.map_eq_some_iff.1 h
  simp only [Prod.mk.injEq] at h2
  obtain ⟨rfl, h3, h4⟩ := h2
  exact ⟨m', h1, h3, h4⟩

theorem word_row (cs : List Value) (h : Ints [.u32] cs) : ∃ x : BitVec 32, True ∧ ∀ ρ : Rho, VRs ρ (uC x) cs := by
  obtain ⟨x, r1, rfl, w, rfl⟩ := h
  obtain ⟨b, hb⟩ := u32_of w
  refine ⟨b, trivial, fun ρ => ?_⟩
  rw [hb]
  simp [uC, U, VRs, VR]

theorem rs_of {α : Type} {f : α → List AV} {c B : Nat} (hf : ∀ x, (f x).length = c) {m : Mem} {v : AV} {b : ABlk} {l : List α} (h : sliceArg f c B v b l) (hm : m.get B = some b) : RS f c m v l := by
  rcases h with ⟨rfl, _, rfl⟩ | ⟨cap, rfl, ⟨_, rfl⟩ | rfl⟩
  · exact .inl ⟨rfl, rfl⟩
  · exact .inr ⟨B, 0, some cap, c, rfl, fun i x hx => by cases hx⟩
  · exact .inr ⟨B, 0, some cap, c, rfl, fun i x hx => ⟨_, _, hm, flat_cells f c hf hx⟩⟩
theorem no_globals : Try.prog.globals.size = 0 := by kernel_rfl

theorem lifted (os : Os) (started : os.Started) (H : Type) (enc : TypeId × Value → H) :
    ReturnsInHanded {} Try.checked os 3 .any (Rows.maskClosesSpec.pre6 enc Try.prog Try.f3 Rows.maskClosesRow.domain false) (Rows.maskClosesSpec.post enc Try.prog Try.f3 false true false false) := by
  refine returnsInHanded_of_change (C := Try.checked) own started (by kernel_rfl) Try.func3
    (ChangeSpec.witness6 (enc := enc) (C := Try.checked) false ⟨#[], #[.int .u32 0, .int .u32 0, .slice none 0 0], []⟩ 8 (by kernel_rfl) (by kernel_rfl) (by kernel_rfl) (by kernel_rfl)) ?_
  intro W base args ds gs before hval hW _ _
  have hW' := hW
  obtain ⟨p, q, hA0, hV, rfl, hfz, hnd⟩ := hW'
  have hA : DataW.TrodAll enc Try.prog W 0 (fun _ => true) true [((Try.f3.params[0]?).getD 0), ((Try.f3.params[1]?).getD 0), ((Try.f3.params[2]?).getD 0)] args.toList ds p := hA0
  obtain ⟨v0, vs0, d0, ds0, p0, q0, e0, rfl, rfl, h0, hA0⟩ := trodAll_cons hA
  obtain ⟨v1, vs1, d1, ds1, p1, q1, e1, rfl, rfl, h1, hA1⟩ := trodAll_cons hA0
  obtain ⟨v2, vs2, d2, ds2, p2, q2, e2, rfl, rfl, h2, hA2⟩ := trodAll_cons hA1
  obtain ⟨en, rfl, rfl⟩ := trodAll_nil hA2
  have ea : args.toList = [v0, v1, v2] := by rw [e0, e1, e2, en]
  have w0 := hval 0 _ v0 rfl (by rw [← Array.getElem?_toList, ea]; rfl)
  have w1 := hval 1 _ v1 rfl (by rw [← Array.getElem?_toList, ea]; rfl)
  have w2 := hval 2 _ v2 rfl (by rw [← Array.getElem?_toList, ea]; rfl)
  obtain ⟨x0, ev0, _, _, wf0⟩ := open_int (k := .u32) (by kernel_rfl) w0 h0
  obtain ⟨P, eu0⟩ := u32_of wf0
  rw [eu0] at ev0
  obtain ⟨x1, ev1, _, _, wf1⟩ := open_int (k := .u32) (by kernel_rfl) w1 h1
  obtain ⟨E, eu1⟩ := u32_of wf1
  rw [eu1] at ev1
  obtain ⟨av2, b2, x2, l, sa2, R2, len2, vr2⟩ := slice_arg (e := (match Try.prog.underlying ((Try.f3.params[2]?).getD 0) with | some (.slice e) => e | _ => 0)) (by kernel_rfl) w2 h2 (n := 8) (ks := [.u32]) (by kernel_rfl) (by kernel_rfl) (by decide) uC (fun _ => True) (fun _ => rfl) word_row 0
  obtain ⟨vr, br⟩ := vr2 [x2] rfl
  have hm : MR Try.prog [x2] (memOf [b2]) W := MR.of_list rfl (show 1 ≤ 2 ^ depth by decide) (fun g hg => by rw [no_globals] at hg; omega) (fun i b hb => by
    match i with
    | 0 => cases hb; exact ⟨x2, rfl, br⟩
    | i + 1 => cases hb) (fun b hb => by
    rcases List.mem_singleton.1 hb with rfl
    exact sa2.own)
  obtain ⟨m', hl, hg, hn⟩ := lives_ok b2
  obtain ⟨m2, hr⟩ := closes_run 1000 (by omega) P E _ m' hl av2 l (rs_of (f := uC) (c := 1) (fun _ => rfl) sa2 hg) (by rw [hn]; decide)
  have hc := law_calls A_ok hr hm (rargs := args) (by
    rw [ea]
    simp only [VRs]
    exact ⟨_, _, rfl, (by rw [ev0]; simp [U, VR]), _, _, rfl, (by rw [ev1]; simp [U, VR]), _, _, rfl, vr, rfl⟩) (show 1 ≤ 2 ^ depth by decide) (by simp only [List.all_cons, List.all_nil, sa2.own]; rfl)
  obtain ⟨rfl, rfl⟩ := trodVars_none hV
  refine hc.mono fun e W' ⟨he, hb⟩ => ?_
  subst he
  exact ⟨_, rfl, law_post (tb := (Try.f3.resultTypes[0]?).getD 0) (by kernel_rfl) (by kernel_rfl) rfl hW rfl laidOut (by kernel_rfl) hb⟩

theorem maskCloses_holds : Rows.MaskClosesSaid :=
  OpenClaim.holds_of_wide 3 Try.f3 rfl rfl rfl rfl rfl rfl rfl ⟨rfl, rfl, rfl, rfl, rfl⟩ rfl rfl rfl rfl rfl (by kernel_rfl) Try.func3 (by kernel_rfl)
    (of_decide_eq_true (by kernel_rfl)) (by unfold Func.isWrapper; first | (rw [if_pos (by decide +kernel)]; kernel_rfl) | (rw [if_neg (by decide +kernel)]; exact ⟨rfl, rfl⟩))
    (fun os started H enc _ => lifted os started H enc)
#print axioms maskCloses_holds
end Go.Proofs.Ytenhcejelicjfaa
