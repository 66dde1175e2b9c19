/- CodeBack: called with any arguments of its types, in whatever world lays the listed package variables as the text does, the function returns true and turns nothing that was there. The condition: the row's own, 'laid'. -/
import Derived.Test.YtekljfhfjncmjaaDoorRows
import Derived.Test.YtekljfhfjncmjaaDoorCards
import Derived.Test.YtekljfhfjncmjaaDoorTie
import Derived.Test.YtekljfhfjncmjaaDoorChecked
import Derived.Test.YtekljfhfjncmjaaDoorAgCh5
import Derived.Test.YtekljfhfjncmjaaDoorAgArg2
import Derived.Test.YtekljfhfjncmjaaDoorAgFuncs
import Derived.Test.YtekljfhfjncmjaaDoorAgArgs
import Derived.LaidMore
import Derived.Deep.DeepLaidRun
import Derived.MakeChecks
import Derived.SevenTiedAt
namespace Go.Proofs.YtekljfhfjncmjaaDoor
open Go.ChangeShapes Go.WideShapes Go.ChangeAt Go.RowKit Go.MakeChecks AG
set_option maxRecDepth 100000

theorem own : ownKnob Tryd.prog.godebug = none := by kernel_rfl
theorem laidOut : laidOutB Tryd.prog = true := by kernel_rfl
/-- The listed tables. -/
def v_bits_deBruijn32tab : List AV := [.int .u8 0, .int .u8 1, .int .u8 28, .int .u8 2, .int .u8 29, .int .u8 14, .int .u8 24, .int .u8 3, .int .u8 30, .int .u8 22, .int .u8 20, .int .u8 15, .int .u8 25, .int .u8 17, .int .u8 4, .int .u8 8, .int .u8 31, .int .u8 27, .int .u8 13, .int .u8 23, .int .u8 21, .int .u8 19, .int .u8 16, .int .u8 7, .int .u8 26, .int .u8 12, .int .u8 18, .int .u8 6, .int .u8 11, .int .u8 5, .int .u8 10, .int .u8 9]
def v_bits_deBruijn64tab : List AV := [.int .u8 0, .int .u8 1, .int .u8 56, .int .u8 2, .int .u8 57, .int .u8 49, .int .u8 28, .int .u8 3, .int .u8 61, .int .u8 58, .int .u8 42, .int .u8 50, .int .u8 38, .int .u8 29, .int .u8 17, .int .u8 4, .int .u8 62, .int .u8 47, .int .u8 59, .int .u8 36, .int .u8 45, .int .u8 43, .int .u8 51, .int .u8 22, .int .u8 53, .int .u8 39, .int .u8 33, .int .u8 30, .int .u8 24, .int .u8 18, .int .u8 12, .int .u8 5, .int .u8 63, .int .u8 55, .int .u8 48, .int .u8 27, .int .u8 60, .int .u8 41, .int .u8 37, .int .u8 16, .int .u8 46, .int .u8 35, .int .u8 44, .int .u8 21, .int .u8 52, .int .u8 32, .int .u8 23, .int .u8 11, .int .u8 54, .int .u8 26, .int .u8 40, .int .u8 15, .int .u8 34, .int .u8 20, .int .u8 31, .int .u8 10, .int .u8 25, .int .u8 14, .int .u8 19, .int .u8 9, .int .u8 13, .int .u8 8, .int .u8 7, .int .u8 6]
def v_strconv_uint64pow10 : List AV := [.int .u64 1, .int .u64 10, .int .u64 100, .int .u64 1000, .int .u64 10000, .int .u64 100000, .int .u64 1000000, .int .u64 10000000, .int .u64 100000000, .int .u64 1000000000, .int .u64 10000000000, .int .u64 100000000000, .int .u64 1000000000000, .int .u64 10000000000000, .int .u64 100000000000000, .int .u64 1000000000000000, .int .u64 10000000000000000, .int .u64 100000000000000000, .int .u64 1000000000000000000, .int .u64 10000000000000000000]
def v_strings_asciiSpace : List AV := [.int .u8 0, .int .u8 0, .int .u8 0, .int .u8 0, .int .u8 0, .int .u8 0, .int .u8 0, .int .u8 0, .int .u8 0, .int .u8 1, .int .u8 1, .int .u8 1, .int .u8 1, .int .u8 1, .int .u8 0, .int .u8 0, .int .u8 0, .int .u8 0, .int .u8 0, .int .u8 0, .int .u8 0, .int .u8 0, .int .u8 0, .int .u8 0, .int .u8 0, .int .u8 0, .int .u8 0, .int .u8 0, .int .u8 0, .int .u8 0, .int .u8 0, .int .u8 0, .int .u8 1, .int .u8 0, .int .u8 0, .int .u8 0, .int .u8 0, .int .u8 0, .int .u8 0, .int .u8 0, .int .u8 0, .int .u8 0, .int .u8 0, .int .u8 0, .int .u8 0, .int .u8 0, .int .u8 0, .int .u8 0, .int .u8 0, .int .u8 0, .int .u8 0, .int .u8 0, .int .u8 0, .int .u8 0, .int .u8 0, .int .u8 0, .int .u8 0, .int .u8 0, .int .u8 0, .int .u8 0, .int .u8 0, .int .u8 0, .int .u8 0, .int .u8 0, .int .u8 0, .int .u8 0, .int .u8 0, .int .u8 0, .int .u8 0, .int .u8 0, .int .u8 0, .int .u8 0, .int .u8 0, .int .u8 0, .int .u8 0, .int .u8 0, .int .u8 0, .int .u8 0, .int .u8 0, .int .u8 0, .int .u8 0, .int .u8 0, .int .u8 0, .int .u8 0, .int .u8 0, .int .u8 0, .int .u8 0, .int .u8 0, .int .u8 0, .int .u8 0, .int .u8 0, .int .u8 0, .int .u8 0, .int .u8 0, .int .u8 0, .int .u8 0, .int .u8 0, .int .u8 0, .int .u8 0, .int .u8 0, .int .u8 0, .int .u8 0, .int .u8 0, .int .u8 0, .int .u8 0, .int .u8 0, .int .u8 0, .int .u8 0, .int .u8 0, .int .u8 0, .int .u8 0, .int .u8 0, .int .u8 0, .int .u8 0, .int .u8 0, .int .u8 0, .int .u8 0, .int .u8 0, .int .u8 0, .int .u8 0, .int .u8 0, .int .u8 0, .int .u8 0, .int .u8 0, .int .u8 0, .int .u8 0, .int .u8 0, .int .u8 0, .int .u8 0, .int .u8 0, .int .u8 0, .int .u8 0, .int .u8 0, .int .u8 0, .int .u8 0, .int .u8 0, .int .u8 0, .int .u8 0, .int .u8 0, .int .u8 0, .int .u8 0, .int .u8 0, .int .u8 0, .int .u8 0, .int .u8 0, .int .u8 0, .int .u8 0, .int .u8 0, .int .u8 0, .int .u8 0, .int .u8 0, .int .u8 0, .int .u8 0, .int .u8 0, .int .u8 0, .int .u8 0, .int .u8 0, .int .u8 0, .int .u8 0, .int .u8 0, .int .u8 0, .int .u8 0, .int .u8 0, .int .u8 0, .int .u8 0, .int .u8 0, .int .u8 0, .int .u8 0, .int .u8 0, .int .u8 0, .int .u8 0, .int .u8 0, .int .u8 0, .int .u8 0, .int .u8 0, .int .u8 0, .int .u8 0, .int .u8 0, .int .u8 0, .int .u8 0, .int .u8 0, .int .u8 0, .int .u8 0, .int .u8 0, .int .u8 0, .int .u8 0, .int .u8 0, .int .u8 0, .int .u8 0, .int .u8 0, .int .u8 0, .int .u8 0, .int .u8 0, .int .u8 0, .int .u8 0, .int .u8 0, .int .u8 0, .int .u8 0, .int .u8 0, .int .u8 0, .int .u8 0, .int .u8 0, .int .u8 0, .int .u8 0, .int .u8 0, .int .u8 0, .int .u8 0, .int .u8 0, .int .u8 0, .int .u8 0, .int .u8 0, .int .u8 0, .int .u8 0, .int .u8 0, .int .u8 0, .int .u8 0, .int .u8 0, .int .u8 0, .int .u8 0, .int .u8 0, .int .u8 0, .int .u8 0, .int .u8 0, .int .u8 0, .int .u8 0, .int .u8 0, .int .u8 0, .int .u8 0, .int .u8 0, .int .u8 0, .int .u8 0, .int .u8 0, .int .u8 0, .int .u8 0, .int .u8 0, .int .u8 0, .int .u8 0, .int .u8 0, .int .u8 0, .int .u8 0, .int .u8 0, .int .u8 0, .int .u8 0, .int .u8 0, .int .u8 0, .int .u8 0, .int .u8 0, .int .u8 0, .int .u8 0, .int .u8 0, .int .u8 0, .int .u8 0, .int .u8 0, .int .u8 0, .int .u8 0, .int .u8 0]
/-- The blocks at the start: the listed variables, those of which nothing is said, what a slice leads to. -/
def blocks (T6 T5 : Nat) : List ABlk := [.cells [.slice 12 0 25 (some 25) 6] false, .dead, .cells signs false, .cells v_strings_asciiSpace false, .cells [.ptr 13 0] false, .cells [.iface T5 .unk] false, .cells [.iface T6 .unk] false, .cells v_strconv_uint64pow10 false, .dead, .cells v_bits_deBruijn32tab false, .cells v_bits_deBruijn64tab false, .dead, .cells kinds false, .cells [.slice 14 0 7 (some 7) 3, .nils, .int .i64 2] false, .cells (Lib.whiteT.map fun z => .int .u16 (z : Nat)) false]
theorem start_ok {w : World} (h : laidMetH Tryd.prog Rows.codeBackRow.laid w) : ∃ ρ T6 T5, MR Tryd.prog ρ (memOf (blocks T6 T5)) w := by
  have hfull := h
  replace h := laidMetH_data h
  have h2 := flat_blk h (show ("lamplighter/word.signs", Rows.laid_lamplighter_word_signs) ∈ Rows.codeBackRow.laid.filter fun x => x.2.handleName?.isNone from List.mem_filter.2 ⟨List.mem_cons_self .., by kernel_rfl⟩) (g := 2) (t := (((Tryd.prog.globals[2]?).map (·.type)).getD 0)) (k := 8) (l := signs) (by kernel_rfl) (by kernel_rfl) (by kernel_rfl)
  have h9 := flat_blk h (show ("math/bits.deBruijn32tab", Rows.laid_math_bits_deBruijn32tab) ∈ Rows.codeBackRow.laid.filter fun x => x.2.handleName?.isNone from List.mem_filter.2 ⟨List.mem_cons_of_mem _ (List.mem_cons_self ..), by kernel_rfl⟩) (g := 9) (t := (((Tryd.prog.globals[9]?).map (·.type)).getD 0)) (k := 8) (l := v_bits_deBruijn32tab) (by kernel_rfl) (by kernel_rfl) (by kernel_rfl)
  have h10 := flat_blk h (show ("math/bits.deBruijn64tab", Rows.laid_math_bits_deBruijn64tab) ∈ Rows.codeBackRow.laid.filter fun x => x.2.handleName?.isNone from List.mem_filter.2 ⟨List.mem_cons_of_mem _ (List.mem_cons_of_mem _ (List.mem_cons_self ..)), by kernel_rfl⟩) (g := 10) (t := (((Tryd.prog.globals[10]?).map (·.type)).getD 0)) (k := 8) (l := v_bits_deBruijn64tab) (by kernel_rfl) (by kernel_rfl) (by kernel_rfl)
  have h7 := flat_blk h (show ("internal/strconv.uint64pow10", Rows.laid_internal_strconv_uint64pow10) ∈ Rows.codeBackRow.laid.filter fun x => x.2.handleName?.isNone from List.mem_filter.2 ⟨List.mem_cons_of_mem _ (List.mem_cons_of_mem _ (List.mem_cons_of_mem _ (List.mem_cons_self ..))), by kernel_rfl⟩) (g := 7) (t := (((Tryd.prog.globals[7]?).map (·.type)).getD 0)) (k := 8) (l := v_strconv_uint64pow10) (by kernel_rfl) (by kernel_rfl) (by kernel_rfl)
  obtain ⟨T6, h6⟩ := iface_blk h (show ("strconv.ErrRange", Rows.laid_strconv_ErrRange) ∈ Rows.codeBackRow.laid.filter fun x => x.2.handleName?.isNone from List.mem_filter.2 ⟨List.mem_cons_of_mem _ (List.mem_cons_of_mem _ (List.mem_cons_of_mem _ (List.mem_cons_of_mem _ (List.mem_cons_self ..)))), by kernel_rfl⟩) (g := 6) (t := (((Tryd.prog.globals[6]?).map (·.type)).getD 0)) (ms := (match Tryd.prog.underlying (((Tryd.prog.globals[6]?).map (·.type)).getD 0) with | some (.interface ms) => ms | _ => #[])) (by kernel_rfl) (by kernel_rfl) (by kernel_rfl)
  obtain ⟨T5, h5⟩ := iface_blk h (show ("strconv.ErrSyntax", Rows.laid_strconv_ErrSyntax) ∈ Rows.codeBackRow.laid.filter fun x => x.2.handleName?.isNone from List.mem_filter.2 ⟨List.mem_cons_of_mem _ (List.mem_cons_of_mem _ (List.mem_cons_of_mem _ (List.mem_cons_of_mem _ (List.mem_cons_of_mem _ (List.mem_cons_self ..))))), by kernel_rfl⟩) (g := 5) (t := (((Tryd.prog.globals[5]?).map (·.type)).getD 0)) (ms := (match Tryd.prog.underlying (((Tryd.prog.globals[5]?).map (·.type)).getD 0) with | some (.interface ms) => ms | _ => #[])) (by kernel_rfl) (by kernel_rfl) (by kernel_rfl)
  have h3 := flat_blk h (show ("strings.asciiSpace", Rows.laid_strings_asciiSpace) ∈ Rows.codeBackRow.laid.filter fun x => x.2.handleName?.isNone from List.mem_filter.2 ⟨List.mem_cons_of_mem _ (List.mem_cons_of_mem _ (List.mem_cons_of_mem _ (List.mem_cons_of_mem _ (List.mem_cons_of_mem _ (List.mem_cons_of_mem _ (List.mem_cons_of_mem _ (List.mem_cons_self ..))))))), by kernel_rfl⟩) (g := 3) (t := (((Tryd.prog.globals[3]?).map (·.type)).getD 0)) (k := 8) (l := v_strings_asciiSpace) (by kernel_rfl) (by kernel_rfl) (by kernel_rfl)
  obtain ⟨x0, h0⟩ := slice_blk h (show ("lamplighter/code.kinds", Rows.laid_lamplighter_code_kinds) ∈ Rows.codeBackRow.laid.filter fun x => x.2.handleName?.isNone from List.mem_filter.2 ⟨List.mem_cons_of_mem _ (List.mem_cons_of_mem _ (List.mem_cons_of_mem _ (List.mem_cons_of_mem _ (List.mem_cons_of_mem _ (List.mem_cons_of_mem _ (List.mem_cons_of_mem _ (List.mem_cons_of_mem _ (List.mem_cons_self ..)))))))), by kernel_rfl⟩) (g := 0) (t := (((Tryd.prog.globals[0]?).map (·.type)).getD 0)) (e := (match Tryd.prog.underlying (((Tryd.prog.globals[0]?).map (·.type)).getD 0) with | some (.slice e) => e | _ => 0)) (k := 8) (len := 24) (c := 5) (l := kinds) (by kernel_rfl) (by kernel_rfl) (by kernel_rfl) (by kernel_rfl) (by kernel_rfl) (by kernel_rfl) (by decide +kernel)
  obtain ⟨x4, y4, h4⟩ := white_blk h (show ("unicode.White_Space", Rows.laid_unicode_White_Space) ∈ Rows.codeBackRow.laid.filter fun x => x.2.handleName?.isNone from List.mem_filter.2 ⟨List.mem_cons_of_mem _ (List.mem_cons_of_mem _ (List.mem_cons_of_mem _ (List.mem_cons_of_mem _ (List.mem_cons_of_mem _ (List.mem_cons_of_mem _ (List.mem_cons_self ..)))))), by kernel_rfl⟩) (g := 4) (t := (((Tryd.prog.globals[4]?).map (·.type)).getD 0)) (e := (match Tryd.prog.underlying (((Tryd.prog.globals[4]?).map (·.type)).getD 0) with | some (.pointer e) => e | _ => 0)) (by kernel_rfl) (by kernel_rfl) (by kernel_rfl) white_of
  refine ⟨[⟨0, 0, 0, 0⟩, ⟨1, 0, 0, 0⟩, ⟨2, 0, 0, 0⟩, ⟨3, 0, 0, 0⟩, ⟨4, 0, 0, 0⟩, ⟨5, 0, 0, 0⟩, ⟨6, 0, 0, 0⟩, ⟨7, 0, 0, 0⟩, ⟨8, 0, 0, 0⟩, ⟨9, 0, 0, 0⟩, ⟨10, 0, 0, 0⟩, ⟨11, 0, 0, 0⟩, x0, x4, y4], T6, T5, MR.of_list rfl (Nat.le_of_ble_eq_true (by kernel_rfl)) (fun g hg => ?_) (fun i b hb => ?_) (fun b hb => by have h := List.all_eq_true.1 (show (blocks T6 T5).all (fun b => !b.own) = true by kernel_rfl) b hb; simpa using h)⟩
  · have : g < 12 := hg
    match g, this with
    | 0, _ => exact ⟨_, rfl, rfl, rfl, rfl⟩
    | 1, _ => exact ⟨_, rfl, rfl, rfl, rfl⟩
    | 2, _ => exact ⟨_, rfl, rfl, rfl, rfl⟩
    | 3, _ => exact ⟨_, rfl, rfl, rfl, rfl⟩
    | 4, _ => exact ⟨_, rfl, rfl, rfl, rfl⟩
    | 5, _ => exact ⟨_, rfl, rfl, rfl, rfl⟩
    | 6, _ => exact ⟨_, rfl, rfl, rfl, rfl⟩
    | 7, _ => exact ⟨_, rfl, rfl, rfl, rfl⟩
    | 8, _ => exact ⟨_, rfl, rfl, rfl, rfl⟩
    | 9, _ => exact ⟨_, rfl, rfl, rfl, rfl⟩
    | 10, _ => exact ⟨_, rfl, rfl, rfl, rfl⟩
    | 11, _ => exact ⟨_, rfl, rfl, rfl, rfl⟩
  · match i with
    | 0 => cases hb; exact ⟨_, rfl, (h0 _ 12 rfl).1⟩
    | 1 => cases hb; exact ⟨_, rfl, trivial⟩
    | 2 => cases hb; exact ⟨_, rfl, h2 _⟩
    | 3 => cases hb; exact ⟨_, rfl, h3 _⟩
    | 4 => cases hb; exact ⟨_, rfl, (h4 _ 13 14 rfl rfl).1⟩
    | 5 => cases hb; exact ⟨_, rfl, h5 _⟩
    | 6 => cases hb; exact ⟨_, rfl, h6 _⟩
    | 7 => cases hb; exact ⟨_, rfl, h7 _⟩
    | 8 => cases hb; exact ⟨_, rfl, trivial⟩
    | 9 => cases hb; exact ⟨_, rfl, h9 _⟩
    | 10 => cases hb; exact ⟨_, rfl, h10 _⟩
    | 11 => cases hb; exact ⟨_, rfl, trivial⟩
    | 12 => cases hb; exact ⟨_, rfl, (h0 _ 12 rfl).2⟩
    | 13 => cases hb; exact ⟨_, rfl, (h4 _ 13 14 rfl rfl).2.1⟩
    | 14 => cases hb; exact ⟨_, rfl, (h4 _ 13 14 rfl rfl).2.2⟩
    | i + 15 => simp [blocks] at hb


theorem door_met (os : Os) (args : Array Value) : laidMetH Tryd.prog Rows.codeBackRow.laid ((World.doorLaid Tryd.prog 125 os).forCall (fun _ _ => 0) ⟨#[], args, []⟩).memory := by
  rw [laidMetH_plain _ _ _ (by kernel_rfl)]
  exact laidMet_of_run3 8 (by kernel_rfl) (by kernel_rfl) (by kernel_rfl)

theorem start_tp (T6 T5 : Nat) : TP (memOf (blocks T6 T5)) := by
  have h3 : (memOf (blocks T6 T5)).get 3 = some (.cells v_strings_asciiSpace false) := by kernel_rfl
  have h4 : (memOf (blocks T6 T5)).get 4 = some (.cells [.ptr 13 0] false) := by kernel_rfl
  have h5 : (memOf (blocks T6 T5)).get 5 = some (.cells [.iface T5 .unk] false) := by kernel_rfl
  have h6 : (memOf (blocks T6 T5)).get 6 = some (.cells [.iface T6 .unk] false) := by kernel_rfl
  have h13 : (memOf (blocks T6 T5)).get 13 = some (.cells [.slice 14 0 7 (some 7) 3, .nils, .int .i64 2] false) := by kernel_rfl
  have h14 : (memOf (blocks T6 T5)).get 14 = some (.cells (Lib.whiteT.map fun z => .int .u16 (z : Nat)) false) := by kernel_rfl
  refine ⟨⟨⟨by kernel_rfl, by kernel_rfl, by kernel_rfl⟩, by kernel_rfl⟩, ?_, ?_, ?_, ?_, Nat.le_of_ble_eq_true (by kernel_rfl)⟩
  · unfold ifaceAt; rw [h5]
  · unfold ifaceAt; rw [h6]
  · unfold tabAtK; rw [h3]; show eqL (eqV 2) v_strings_asciiSpace (Lib.asciiSpaceTab.map fun z => .int .u8 z) = true; decide +kernel
  · unfold whiteAt
    simp only [h4, h13, h14]
    show eqL (eqV 2) (Lib.whiteT.map fun z => .int .u16 (z : Nat)) (Lib.whiteT.map fun z => .int .u16 (z : Nat)) = true
    decide +kernel
theorem start_n (T6 T5 : Nat) : (memOf (blocks T6 T5)).n + 2000 ≤ 2 ^ depth := by
  have e : (2 : Nat) ^ depth = 1048576 := by decide
  rw [e]
  exact Nat.le_of_ble_eq_true (by kernel_rfl)
theorem ins_of {ρ : Rho} {cs : Array Value} (h : Ints [.i64, .i64, .i64, .i64] cs.toList) : ∃ x y z t : Int, VR ρ (insA x y z t) (.agg cs) := by
  obtain ⟨x, r1, e1, _, y, r2, rfl, _, z, r3, rfl, _, t, r4, rfl, _, rfl⟩ := h
  refine ⟨x, y, z, t, ?_⟩
  simp only [insA, VR]
  refine ⟨cs, rfl, ?_⟩
  rw [e1]
  simp [VRs, VR]

theorem lifted (os : Os) (started : os.Started) (H : Type) (enc : TypeId × Value → H) :
    ReturnsInHanded {} Tryd.checked os 5 .any (fun w args => (Rows.codeBackSpec.pre enc Tryd.prog Tryd.f5 [] false w args ∧ laidMetH Tryd.prog Rows.codeBackRow.laid w) ∧ sizedMet enc Tryd.prog Tryd.f5 (OpenSpec.ofChange Rows.codeBackSpec) false w args)
      (Rows.codeBackSpec.post enc Tryd.prog Tryd.f5 false true false false) := by
  refine returnsInHanded_of_change_and (C := Tryd.checked) (X := fun w _ => laidMetH Tryd.prog Rows.codeBackRow.laid w) (fun _ _ _ hh h => h.of_heap hh) own started (by kernel_rfl) Tryd.func5
    (ChangeSpec.witness_shaped (enc := enc) (C := Tryd.checked) (os := os) (X := fun w _ => laidMetH Tryd.prog Rows.codeBackRow.laid w) false (World.doorLaid Tryd.prog 125 os) #[.agg #[.int .i64 0, .int .i64 0, .int .i64 0, .int .i64 0], .string ⟨#[]⟩] 8 rfl (World.shaped_of_RefB (by kernel_rfl) (by kernel_rfl)) (by kernel_rfl) (by kernel_rfl) (by kernel_rfl) (door_met os _)) ?_
  intro W base args ds gs before hval hW _ _ hL _
  have hW' := hW
  obtain ⟨p, q, hA0, hV, rfl, hfz, hnd⟩ := hW'
  have hA : DataW.TrodAll enc Tryd.prog W 0 (fun _ => true) true [((Tryd.f5.params[0]?).getD 0), ((Tryd.f5.params[1]?).getD 0)] args.toList ds p := hA0
  obtain ⟨v0, vs0, d0, ds0, p0, q0, e0, rfl, rfl, h0, hA0⟩ := trodAll_cons hA
  obtain ⟨v1, vs1, d1, ds1, p1, q1, e1, rfl, rfl, h1, hA1⟩ := trodAll_cons hA0
  obtain ⟨en, rfl, rfl⟩ := trodAll_nil hA1
  have ea : args.toList = [v0, v1] := by rw [e0, e1, en]
  have w0 := hval 0 _ v0 rfl (by rw [← Array.getElem?_toList, ea]; rfl)
  have w1 := hval 1 _ v1 rfl (by rw [← Array.getElem?_toList, ea]; rfl)
  obtain ⟨c0, rfl, ii0⟩ := agg_of h0 (n := 8) (k1 := .i64) (k2 := .i64) (ks := [.i64, .i64]) (by kernel_rfl)
  obtain ⟨s1, rfl⟩ := okWide_string (by kernel_rfl) w1
  obtain ⟨ρ, T6, T5, hm⟩ := start_ok hL
  obtain ⟨o, x, y, z, hi⟩ := ins_of (ρ := ρ) ii0
  have hsn := start_n T6 T5
  obtain ⟨m', hl, hx, hn⟩ := lives_run 999 (by omega) _ (start_tp T6 T5) (by omega)
  obtain ⟨m2, hr⟩ := back_run 1000 (by omega) o x y z s1 _ m' hl ((start_tp T6 T5).ext hx) (by omega)
  have hc := law_calls A_ok hr hm (rargs := args) (by
    rw [ea]
    simp only [VRs]
    exact ⟨_, _, rfl, hi, _, _, rfl, by simp only [VR], rfl⟩) (Nat.le_of_ble_eq_true (by kernel_rfl)) (by kernel_rfl)
  obtain ⟨rfl, rfl⟩ := trodVars_none hV
  refine hc.mono fun e W' ⟨he, hb⟩ => ?_
  subst he
  exact ⟨_, rfl, law_post (tb := (Tryd.f5.resultTypes[0]?).getD 0) (by kernel_rfl) (by kernel_rfl) rfl hW rfl laidOut (by kernel_rfl) hb⟩

theorem codeBack_holds : Rows.CodeBackSaid :=
  OpenClaim.holds_of_wide 5 Tryd.f5 rfl rfl rfl rfl rfl rfl rfl ⟨rfl, rfl, rfl, rfl, rfl⟩ rfl rfl rfl rfl rfl (by kernel_rfl) Tryd.func5 (by kernel_rfl)
    (of_decide_eq_true (by kernel_rfl)) (by unfold Func.isWrapper; first | (rw [if_pos (by decide +kernel)]; kernel_rfl) | (rw [if_neg (by decide +kernel)]; exact ⟨rfl, rfl⟩))
    (fun os started H enc _ => lifted os started H enc)

theorem codeBack_card_holds : Rows.CodeBackCardSaid :=
  Claim7.holds_tied_plain_at .later [] [.data, .data, .data, .data, .sentinel, .sentinel, .listed, .data, .widerDeep] true (true, "83926ac6039ab379ef42584b43bbdbb283c588697513ba9a15e92cc9ecf5da4a") true
    codeBack_holds (fun _ h => by cases h) (by kernel_rfl) (fun _ h => by cases h) codeBack_row_tie rfl ⟨rfl, rfl⟩ (by kernel_rfl) rfl
    (fun f fn hf hfn => by
      obtain rfl : f = 5 := Option.some.inj ((show Tryd.prog.funcNamed "lamplighter/lamplighterlaw03.CodeBack" = some 5 by kernel_rfl).symm.trans hf) |>.symm
      obtain rfl : fn = Tryd.f5 := (Option.some.inj (Tryd.func5.symm.trans hfn)).symm
      exact ⟨by kernel_rfl, fun j t ht => by
        have hp : (Tryd.f5.params.toList.all fun t => !Tryd.prog.wantsStandIn t) = true := by kernel_rfl
        have := List.all_eq_true.1 hp t (List.mem_of_getElem? (by rw [Array.getElem?_toList]; exact ht))
        have hq : Tryd.prog.wantsStandIn t = false := by simpa using this
        exact hq⟩)
    (by kernel_rfl)
#print axioms codeBack_card_holds
end Go.Proofs.YtekljfhfjncmjaaDoor
