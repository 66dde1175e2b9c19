/-
  NARROWER THAN 'FOR EVERY INPUT', by the rows' own cells (each row's printed sentence says how): DepthFits: laid · DepthEdges: laid · DepthNames: laid · DepthCalls: laid · CfgDead: laid · CfgPaths: laid · CfgRows: laid · CfgNames: laid · CfgCalls: laid.
  DERIVED. THE GIVEN ROWS OF THIS SEAT. 9 by the template 'for every input the law returns true; each argument reads behind the call as it read before'; 0 by the template 'total and deterministic' (their statements: YtkmbepgofajfkaaDoorTotals.lean).
  GIVEN WITH THE SEED: the statements are not yours to turn. If you find one false, say at which input.
  Laid BY PROGRAM, IN A SANDBOX (cutbox-rows.mjs): the forced cells as the released guide's own fill.sh prints them over the translation eb9386a42feb0b08… (all of the seat's roots in one cut). By AI agents, Wed Nov 11 2026. No macro, syntax, notation, axiom, sorry.
-/
import Derived.Test.YtkmbepgofajfkaaDoorChecked
import GoSem.Claim
import GoSem.ClaimJoined
import GoSem.ClaimMapViews
import Derived.JoinedTies
import Derived.KernelRfl
namespace Go.Proofs.YtkmbepgofajfkaaDoor
/- THE CELL 'sum', in the pinned program and in every row, IS THE sha256 OF THE DUMP (.gsa) THAT YtkmbepgofajfkaaDoorProg.lean LOADS. Nothing in Lean hashes anything: it is a label: what it is worth is what the hold of that sum in a sandbox is worth. -/
noncomputable def Tryd.pinned : Pinned := { name := "ytkmbepgofajfkaadoor", sum := "eb9386a42feb0b080306c04c3cfbfef229e79a2f9c7a2ac2703b2e81086b3a75", checked := Tryd.checked }
namespace Rows
def none {H : Type} : Left H := { results := [], args := [] }

/- WHAT THE LISTED PACKAGE-LEVEL VARIABLES READ AS WHEN THE CALL BEGINS. Each datum BY PROGRAM (the guide's laid-datum.mjs) off the statement by which the dump's own 'gosem.cut.vars' lays the variable. In a bare row this is a premise. The card (YtkmbepgofajfkaaDoorCards.lean) ties it to the program's text. -/
def laid_lamplighter_word_signs {H : Type} : DataW H := .agg [.lit (.string []), .lit (.string [43]), .lit (.string [45]), .lit (.string [42]), .lit (.string [47]), .lit (.string [37]), .lit (.string [115, 47]), .lit (.string [115, 37]), .lit (.string [38]), .lit (.string [124]), .lit (.string [94]), .lit (.string [60, 60]), .lit (.string [62, 62]), .lit (.string [115, 62, 62]), .lit (.string [61, 61]), .lit (.string [33, 61]), .lit (.string [60]), .lit (.string [60, 61]), .lit (.string [115, 60]), .lit (.string [115, 60, 61])]
def laid_lamplighter_code_kinds {H : Type} : DataW H := .slice [.agg [.lit (.string []), .lit (.int .i64 0), .lit (.int .i64 0), .lit (.int .i64 0), .lit (.int .i64 0), .lit (.int .i64 0)], .agg [.lit (.string [104, 97, 108, 116]), .lit (.int .i64 0), .lit (.int .i64 0), .lit (.int .i64 0), .lit (.int .i64 0), .lit (.int .i64 0)], .agg [.lit (.string [112, 117, 115, 104]), .lit (.int .i64 2), .lit (.int .i64 0), .lit (.int .i64 0), .lit (.int .i64 0), .lit (.int .i64 1)], .agg [.lit (.string [112, 111, 112]), .lit (.int .i64 0), .lit (.int .i64 0), .lit (.int .i64 0), .lit (.int .i64 1), .lit (.int .i64 0)], .agg [.lit (.string [108, 100]), .lit (.int .i64 1), .lit (.int .i64 0), .lit (.int .i64 0), .lit (.int .i64 0), .lit (.int .i64 1)], .agg [.lit (.string [115, 116]), .lit (.int .i64 1), .lit (.int .i64 3), .lit (.int .i64 0), .lit (.int .i64 1), .lit (.int .i64 0)], .agg [.lit (.string [108, 100, 120]), .lit (.int .i64 1), .lit (.int .i64 4), .lit (.int .i64 0), .lit (.int .i64 1), .lit (.int .i64 1)], .agg [.lit (.string [115, 116, 120]), .lit (.int .i64 1), .lit (.int .i64 4), .lit (.int .i64 3), .lit (.int .i64 2), .lit (.int .i64 0)], .agg [.lit (.string [108, 100, 108]), .lit (.int .i64 1), .lit (.int .i64 0), .lit (.int .i64 0), .lit (.int .i64 0), .lit (.int .i64 1)], .agg [.lit (.string [115, 116, 108]), .lit (.int .i64 1), .lit (.int .i64 3), .lit (.int .i64 0), .lit (.int .i64 1), .lit (.int .i64 0)], .agg [.lit (.string [105, 110]), .lit (.int .i64 1), .lit (.int .i64 0), .lit (.int .i64 0), .lit (.int .i64 0), .lit (.int .i64 1)], .agg [.lit (.string [111, 117, 116]), .lit (.int .i64 1), .lit (.int .i64 0), .lit (.int .i64 0), .lit (.int .i64 1), .lit (.int .i64 0)], .agg [.lit (.string [98, 105, 110]), .lit (.int .i64 7), .lit (.int .i64 0), .lit (.int .i64 0), .lit (.int .i64 2), .lit (.int .i64 1)], .agg [.lit (.string [117, 110]), .lit (.int .i64 8), .lit (.int .i64 0), .lit (.int .i64 0), .lit (.int .i64 1), .lit (.int .i64 1)], .agg [.lit (.string [99, 117, 116]), .lit (.int .i64 3), .lit (.int .i64 0), .lit (.int .i64 0), .lit (.int .i64 1), .lit (.int .i64 1)], .agg [.lit (.string [106, 109, 112]), .lit (.int .i64 1), .lit (.int .i64 0), .lit (.int .i64 0), .lit (.int .i64 0), .lit (.int .i64 0)], .agg [.lit (.string [106, 122]), .lit (.int .i64 1), .lit (.int .i64 0), .lit (.int .i64 0), .lit (.int .i64 1), .lit (.int .i64 0)], .agg [.lit (.string [99, 97, 108, 108]), .lit (.int .i64 1), .lit (.int .i64 0), .lit (.int .i64 0), .lit (.int .i64 0), .lit (.int .i64 1)], .agg [.lit (.string [114, 101, 116]), .lit (.int .i64 0), .lit (.int .i64 0), .lit (.int .i64 0), .lit (.int .i64 1), .lit (.int .i64 0)], .agg [.lit (.string [101, 110]), .lit (.int .i64 5), .lit (.int .i64 0), .lit (.int .i64 0), .lit (.int .i64 0), .lit (.int .i64 0)], .agg [.lit (.string [100, 105, 115]), .lit (.int .i64 5), .lit (.int .i64 0), .lit (.int .i64 0), .lit (.int .i64 0), .lit (.int .i64 0)], .agg [.lit (.string [108, 118, 108]), .lit (.int .i64 6), .lit (.int .i64 0), .lit (.int .i64 0), .lit (.int .i64 0), .lit (.int .i64 0)], .agg [.lit (.string [112, 116]), .lit (.int .i64 0), .lit (.int .i64 0), .lit (.int .i64 0), .lit (.int .i64 0), .lit (.int .i64 0)], .agg [.lit (.string [98, 101, 103]), .lit (.int .i64 1), .lit (.int .i64 0), .lit (.int .i64 0), .lit (.int .i64 0), .lit (.int .i64 0)], .agg [.lit (.string [101, 110, 100]), .lit (.int .i64 1), .lit (.int .i64 0), .lit (.int .i64 0), .lit (.int .i64 0), .lit (.int .i64 0)]] []
def laid_lamplighter_image_checks {H : Type} : DataW H := .iface "func table" (.agg [.iface "func" (.lit (.string [40, 108, 97, 109, 112, 108, 105, 103, 104, 116, 101, 114, 47, 105, 109, 97, 103, 101, 46, 108, 111, 111, 107, 41, 46, 115, 105, 122, 101, 115])), .iface "func" (.lit (.string [40, 108, 97, 109, 112, 108, 105, 103, 104, 116, 101, 114, 47, 105, 109, 97, 103, 101, 46, 108, 111, 111, 107, 41, 46, 102, 117, 110, 99, 115])), .iface "func" (.lit (.string [40, 108, 97, 109, 112, 108, 105, 103, 104, 116, 101, 114, 47, 105, 109, 97, 103, 101, 46, 108, 111, 111, 107, 41, 46, 118, 101, 99, 115])), .iface "func" (.lit (.string [40, 108, 97, 109, 112, 108, 105, 103, 104, 116, 101, 114, 47, 105, 109, 97, 103, 101, 46, 108, 111, 111, 107, 41, 46, 99, 111, 100, 101, 115])), .iface "func" (.lit (.string [40, 108, 97, 109, 112, 108, 105, 103, 104, 116, 101, 114, 47, 105, 109, 97, 103, 101, 46, 108, 111, 111, 107, 41, 46, 97, 116, 111, 109, 115])), .iface "func" (.lit (.string [40, 108, 97, 109, 112, 108, 105, 103, 104, 116, 101, 114, 47, 105, 109, 97, 103, 101, 46, 108, 111, 111, 107, 41, 46, 99, 105, 114, 99, 108, 101, 115]))])

/-- 'lamplighterlaw18.DepthFits': WHATEVER THE INPUT: true; the input reads as it did. -/
def depthFitsSpec : ChangeSpec := { name := "depthFits", fn := fun _ => fun
  | [d1, d2] => { results := [.lit (.bool true)], args := [d1, d2] }
  | _ => none }
def depthFitsRow : OpenClaim := { program := "ytkmbepgofajfkaadoor", sum := "eb9386a42feb0b080306c04c3cfbfef229e79a2f9c7a2ac2703b2e81086b3a75", func := "lamplighter/lamplighterlaw18.DepthFits", spec := "depthFits", unfollowed := true, recurses := true, named := ["lamplighter/image.checks", "lamplighter/code.kinds", "lamplighter/word.signs"], plainKeys := false, apart := false, laid := [("lamplighter/word.signs", laid_lamplighter_word_signs), ("lamplighter/code.kinds", laid_lamplighter_code_kinds), ("lamplighter/image.checks", laid_lamplighter_image_checks)] }
def DepthFitsSaid : Prop := depthFitsRow.holds Tryd.pinned (OpenSpec.ofChange depthFitsSpec)

/-- ITS FALSE NEIGHBOUR: 'it returns false'. Refute it at one input. -/
def depthFitsWrong : ChangeSpec := { name := "depthFits", fn := fun _ => fun
  | [d1, d2] => { results := [.lit (.bool false)], args := [d1, d2] }
  | _ => none }
def DepthFitsWrongFalsely : Prop := depthFitsRow.holds Tryd.pinned (OpenSpec.ofChange depthFitsWrong)

/-- 'lamplighterlaw18.DepthEdges': WHATEVER THE INPUT: true; the input reads as it did. -/
def depthEdgesSpec : ChangeSpec := { name := "depthEdges", fn := fun _ => fun
  | [d] => { results := [.lit (.bool true)], args := [d] }
  | _ => none }
def depthEdgesRow : OpenClaim := { program := "ytkmbepgofajfkaadoor", sum := "eb9386a42feb0b080306c04c3cfbfef229e79a2f9c7a2ac2703b2e81086b3a75", func := "lamplighter/lamplighterlaw18.DepthEdges", spec := "depthEdges", unfollowed := true, recurses := true, named := ["lamplighter/image.checks", "lamplighter/code.kinds", "lamplighter/word.signs"], plainKeys := false, apart := false, laid := [("lamplighter/word.signs", laid_lamplighter_word_signs), ("lamplighter/code.kinds", laid_lamplighter_code_kinds), ("lamplighter/image.checks", laid_lamplighter_image_checks)] }
def DepthEdgesSaid : Prop := depthEdgesRow.holds Tryd.pinned (OpenSpec.ofChange depthEdgesSpec)

/-- ITS FALSE NEIGHBOUR: 'it returns false'. Refute it at one input. -/
def depthEdgesWrong : ChangeSpec := { name := "depthEdges", fn := fun _ => fun
  | [d] => { results := [.lit (.bool false)], args := [d] }
  | _ => none }
def DepthEdgesWrongFalsely : Prop := depthEdgesRow.holds Tryd.pinned (OpenSpec.ofChange depthEdgesWrong)

/-- 'lamplighterlaw18.DepthNames': WHATEVER THE INPUT: true; the input reads as it did. -/
def depthNamesSpec : ChangeSpec := { name := "depthNames", fn := fun _ => fun
  | [] => { results := [.lit (.bool true)], args := [] }
  | _ => none }
def depthNamesRow : OpenClaim := { program := "ytkmbepgofajfkaadoor", sum := "eb9386a42feb0b080306c04c3cfbfef229e79a2f9c7a2ac2703b2e81086b3a75", func := "lamplighter/lamplighterlaw18.DepthNames", spec := "depthNames", unfollowed := true, recurses := true, named := ["lamplighter/image.checks", "lamplighter/code.kinds", "lamplighter/word.signs"], plainKeys := false, apart := false, laid := [("lamplighter/word.signs", laid_lamplighter_word_signs), ("lamplighter/code.kinds", laid_lamplighter_code_kinds), ("lamplighter/image.checks", laid_lamplighter_image_checks)] }
def DepthNamesSaid : Prop := depthNamesRow.holds Tryd.pinned (OpenSpec.ofChange depthNamesSpec)

/-- ITS FALSE NEIGHBOUR: 'it returns false'. Refute it at one input. -/
def depthNamesWrong : ChangeSpec := { name := "depthNames", fn := fun _ => fun
  | [] => { results := [.lit (.bool false)], args := [] }
  | _ => none }
def DepthNamesWrongFalsely : Prop := depthNamesRow.holds Tryd.pinned (OpenSpec.ofChange depthNamesWrong)

/-- 'lamplighterlaw18.DepthCalls': WHATEVER THE INPUT: true; the input reads as it did. -/
def depthCallsSpec : ChangeSpec := { name := "depthCalls", fn := fun _ => fun
  | [d1, d2, d3, d4] => { results := [.lit (.bool true)], args := [d1, d2, d3, d4] }
  | _ => none }
def depthCallsRow : OpenClaim := { program := "ytkmbepgofajfkaadoor", sum := "eb9386a42feb0b080306c04c3cfbfef229e79a2f9c7a2ac2703b2e81086b3a75", func := "lamplighter/lamplighterlaw18.DepthCalls", spec := "depthCalls", unfollowed := true, recurses := true, named := ["lamplighter/image.checks", "lamplighter/code.kinds", "lamplighter/word.signs"], plainKeys := false, apart := false, laid := [("lamplighter/word.signs", laid_lamplighter_word_signs), ("lamplighter/code.kinds", laid_lamplighter_code_kinds), ("lamplighter/image.checks", laid_lamplighter_image_checks)] }
def DepthCallsSaid : Prop := depthCallsRow.holds Tryd.pinned (OpenSpec.ofChange depthCallsSpec)

/-- ITS FALSE NEIGHBOUR: 'it returns false'. Refute it at one input. -/
def depthCallsWrong : ChangeSpec := { name := "depthCalls", fn := fun _ => fun
  | [d1, d2, d3, d4] => { results := [.lit (.bool false)], args := [d1, d2, d3, d4] }
  | _ => none }
def DepthCallsWrongFalsely : Prop := depthCallsRow.holds Tryd.pinned (OpenSpec.ofChange depthCallsWrong)

/-- 'lamplighterlaw16.CfgDead': WHATEVER THE INPUT: true; the input reads as it did. -/
def cfgDeadSpec : ChangeSpec := { name := "cfgDead", fn := fun _ => fun
  | [d1, d2] => { results := [.lit (.bool true)], args := [d1, d2] }
  | _ => none }
def cfgDeadRow : OpenClaim := { program := "ytkmbepgofajfkaadoor", sum := "eb9386a42feb0b080306c04c3cfbfef229e79a2f9c7a2ac2703b2e81086b3a75", func := "lamplighter/lamplighterlaw16.CfgDead", spec := "cfgDead", unfollowed := true, recurses := true, named := ["lamplighter/image.checks", "lamplighter/code.kinds", "lamplighter/word.signs"], plainKeys := false, apart := false, laid := [("lamplighter/word.signs", laid_lamplighter_word_signs), ("lamplighter/code.kinds", laid_lamplighter_code_kinds), ("lamplighter/image.checks", laid_lamplighter_image_checks)] }
def CfgDeadSaid : Prop := cfgDeadRow.holds Tryd.pinned (OpenSpec.ofChange cfgDeadSpec)

/-- ITS FALSE NEIGHBOUR: 'it returns false'. Refute it at one input. -/
def cfgDeadWrong : ChangeSpec := { name := "cfgDead", fn := fun _ => fun
  | [d1, d2] => { results := [.lit (.bool false)], args := [d1, d2] }
  | _ => none }
def CfgDeadWrongFalsely : Prop := cfgDeadRow.holds Tryd.pinned (OpenSpec.ofChange cfgDeadWrong)

/-- 'lamplighterlaw16.CfgPaths': WHATEVER THE INPUT: true; the input reads as it did. -/
def cfgPathsSpec : ChangeSpec := { name := "cfgPaths", fn := fun _ => fun
  | [d1, d2, d3] => { results := [.lit (.bool true)], args := [d1, d2, d3] }
  | _ => none }
def cfgPathsRow : OpenClaim := { program := "ytkmbepgofajfkaadoor", sum := "eb9386a42feb0b080306c04c3cfbfef229e79a2f9c7a2ac2703b2e81086b3a75", func := "lamplighter/lamplighterlaw16.CfgPaths", spec := "cfgPaths", unfollowed := true, recurses := true, named := ["lamplighter/image.checks", "lamplighter/code.kinds", "lamplighter/word.signs"], plainKeys := false, apart := false, laid := [("lamplighter/word.signs", laid_lamplighter_word_signs), ("lamplighter/code.kinds", laid_lamplighter_code_kinds), ("lamplighter/image.checks", laid_lamplighter_image_checks)] }
def CfgPathsSaid : Prop := cfgPathsRow.holds Tryd.pinned (OpenSpec.ofChange cfgPathsSpec)

/-- ITS FALSE NEIGHBOUR: 'it returns false'. Refute it at one input. -/
def cfgPathsWrong : ChangeSpec := { name := "cfgPaths", fn := fun _ => fun
  | [d1, d2, d3] => { results := [.lit (.bool false)], args := [d1, d2, d3] }
  | _ => none }
def CfgPathsWrongFalsely : Prop := cfgPathsRow.holds Tryd.pinned (OpenSpec.ofChange cfgPathsWrong)

/-- 'lamplighterlaw16.CfgRows': WHATEVER THE INPUT: true; the input reads as it did. -/
def cfgRowsSpec : ChangeSpec := { name := "cfgRows", fn := fun _ => fun
  | [d] => { results := [.lit (.bool true)], args := [d] }
  | _ => none }
def cfgRowsRow : OpenClaim := { program := "ytkmbepgofajfkaadoor", sum := "eb9386a42feb0b080306c04c3cfbfef229e79a2f9c7a2ac2703b2e81086b3a75", func := "lamplighter/lamplighterlaw16.CfgRows", spec := "cfgRows", unfollowed := true, recurses := true, named := ["lamplighter/image.checks", "lamplighter/code.kinds", "lamplighter/word.signs"], plainKeys := false, apart := false, laid := [("lamplighter/word.signs", laid_lamplighter_word_signs), ("lamplighter/code.kinds", laid_lamplighter_code_kinds), ("lamplighter/image.checks", laid_lamplighter_image_checks)] }
def CfgRowsSaid : Prop := cfgRowsRow.holds Tryd.pinned (OpenSpec.ofChange cfgRowsSpec)

/-- ITS FALSE NEIGHBOUR: 'it returns false'. Refute it at one input. -/
def cfgRowsWrong : ChangeSpec := { name := "cfgRows", fn := fun _ => fun
  | [d] => { results := [.lit (.bool false)], args := [d] }
  | _ => none }
def CfgRowsWrongFalsely : Prop := cfgRowsRow.holds Tryd.pinned (OpenSpec.ofChange cfgRowsWrong)

/-- 'lamplighterlaw16.CfgNames': WHATEVER THE INPUT: true; the input reads as it did. -/
def cfgNamesSpec : ChangeSpec := { name := "cfgNames", fn := fun _ => fun
  | [] => { results := [.lit (.bool true)], args := [] }
  | _ => none }
def cfgNamesRow : OpenClaim := { program := "ytkmbepgofajfkaadoor", sum := "eb9386a42feb0b080306c04c3cfbfef229e79a2f9c7a2ac2703b2e81086b3a75", func := "lamplighter/lamplighterlaw16.CfgNames", spec := "cfgNames", unfollowed := true, recurses := true, named := ["lamplighter/image.checks", "lamplighter/code.kinds", "lamplighter/word.signs"], plainKeys := false, apart := false, laid := [("lamplighter/word.signs", laid_lamplighter_word_signs), ("lamplighter/code.kinds", laid_lamplighter_code_kinds), ("lamplighter/image.checks", laid_lamplighter_image_checks)] }
def CfgNamesSaid : Prop := cfgNamesRow.holds Tryd.pinned (OpenSpec.ofChange cfgNamesSpec)

/-- ITS FALSE NEIGHBOUR: 'it returns false'. Refute it at one input. -/
def cfgNamesWrong : ChangeSpec := { name := "cfgNames", fn := fun _ => fun
  | [] => { results := [.lit (.bool false)], args := [] }
  | _ => none }
def CfgNamesWrongFalsely : Prop := cfgNamesRow.holds Tryd.pinned (OpenSpec.ofChange cfgNamesWrong)

/-- 'lamplighterlaw16.CfgCalls': WHATEVER THE INPUT: true; the input reads as it did. -/
def cfgCallsSpec : ChangeSpec := { name := "cfgCalls", fn := fun _ => fun
  | [d1, d2, d3, d4] => { results := [.lit (.bool true)], args := [d1, d2, d3, d4] }
  | _ => none }
def cfgCallsRow : OpenClaim := { program := "ytkmbepgofajfkaadoor", sum := "eb9386a42feb0b080306c04c3cfbfef229e79a2f9c7a2ac2703b2e81086b3a75", func := "lamplighter/lamplighterlaw16.CfgCalls", spec := "cfgCalls", unfollowed := true, recurses := true, named := ["lamplighter/image.checks", "lamplighter/code.kinds", "lamplighter/word.signs"], plainKeys := false, apart := false, laid := [("lamplighter/word.signs", laid_lamplighter_word_signs), ("lamplighter/code.kinds", laid_lamplighter_code_kinds), ("lamplighter/image.checks", laid_lamplighter_image_checks)] }
def CfgCallsSaid : Prop := cfgCallsRow.holds Tryd.pinned (OpenSpec.ofChange cfgCallsSpec)

/-- ITS FALSE NEIGHBOUR: 'it returns false'. Refute it at one input. -/
def cfgCallsWrong : ChangeSpec := { name := "cfgCalls", fn := fun _ => fun
  | [d1, d2, d3, d4] => { results := [.lit (.bool false)], args := [d1, d2, d3, d4] }
  | _ => none }
def CfgCallsWrongFalsely : Prop := cfgCallsRow.holds Tryd.pinned (OpenSpec.ofChange cfgCallsWrong)

/- THE SECOND FORM. 'bulk': how many values and letters a reading holds, each counted each time it is reached (what is shared counts as often as it is met; a slice's spare places count too). A statement '..UptoSaid' is the law's where the arguments, and the package variables that the reading takes, are together of bulk at most 1048576: NARROWER than '..Said'. Prove '..Said' where nothing that the law and all that it calls make is longer than what came in: it says more and counts as full. Else prove '..UptoSaid'. A law counts once. -/
mutual
def uptoBulk {H : Type} : DataW H → Nat
  | .lit (.string bytes) => bytes.length + 1
  | .lit _ => 1
  | .nil => 1
  | .ptr d => uptoBulk d + 1
  | .slice elems spare => uptoBulkAll elems + uptoBulkAll spare + 1
  | .agg parts => uptoBulkAll parts + 1
  | .iface _ d => uptoBulk d + 1
  | .map entries => uptoBulkEntries entries + 1
  | .held _ => 1
def uptoBulkAll {H : Type} : List (DataW H) → Nat
  | [] => 0
  | d :: r => uptoBulk d + uptoBulkAll r
def uptoBulkEntries {H : Type} : List (Lit × DataW H) → Nat
  | [] => 0
  | x :: r => uptoBulkEntry x + uptoBulkEntries r
def uptoBulkEntry {H : Type} : Lit × DataW H → Nat
  | (.string bytes, d) => bytes.length + uptoBulk d + 1
  | (_, d) => uptoBulk d + 1
 end
def uptoSmall : (H : Type) → List (DataW H) → Bool := fun _ ds => decide (uptoBulkAll ds ≤ 1048576)
def OpenSpec.upto (s : _root_.Go.ChangeSpec) : _root_.Go.OpenSpec := { _root_.Go.OpenSpec.ofChange s with cond := some uptoSmall }

/-- 'lamplighterlaw18.DepthFits', WHERE WHAT IT READS IS OF BULK AT MOST 1048576: true; the input reads as it did. -/
def depthFitsUptoRow : OpenClaim := { program := "ytkmbepgofajfkaadoor", sum := "eb9386a42feb0b080306c04c3cfbfef229e79a2f9c7a2ac2703b2e81086b3a75", func := "lamplighter/lamplighterlaw18.DepthFits", spec := "depthFits", unfollowed := true, recurses := true, named := ["lamplighter/image.checks", "lamplighter/code.kinds", "lamplighter/word.signs"], plainKeys := false, apart := false, laid := [("lamplighter/word.signs", laid_lamplighter_word_signs), ("lamplighter/code.kinds", laid_lamplighter_code_kinds), ("lamplighter/image.checks", laid_lamplighter_image_checks)], narrowed := true }
def DepthFitsUptoSaid : Prop := depthFitsUptoRow.holds Tryd.pinned (OpenSpec.upto depthFitsSpec)

/-- 'lamplighterlaw18.DepthEdges', WHERE WHAT IT READS IS OF BULK AT MOST 1048576: true; the input reads as it did. -/
def depthEdgesUptoRow : OpenClaim := { program := "ytkmbepgofajfkaadoor", sum := "eb9386a42feb0b080306c04c3cfbfef229e79a2f9c7a2ac2703b2e81086b3a75", func := "lamplighter/lamplighterlaw18.DepthEdges", spec := "depthEdges", unfollowed := true, recurses := true, named := ["lamplighter/image.checks", "lamplighter/code.kinds", "lamplighter/word.signs"], plainKeys := false, apart := false, laid := [("lamplighter/word.signs", laid_lamplighter_word_signs), ("lamplighter/code.kinds", laid_lamplighter_code_kinds), ("lamplighter/image.checks", laid_lamplighter_image_checks)], narrowed := true }
def DepthEdgesUptoSaid : Prop := depthEdgesUptoRow.holds Tryd.pinned (OpenSpec.upto depthEdgesSpec)

/-- 'lamplighterlaw18.DepthNames', WHERE WHAT IT READS IS OF BULK AT MOST 1048576: true; the input reads as it did. -/
def depthNamesUptoRow : OpenClaim := { program := "ytkmbepgofajfkaadoor", sum := "eb9386a42feb0b080306c04c3cfbfef229e79a2f9c7a2ac2703b2e81086b3a75", func := "lamplighter/lamplighterlaw18.DepthNames", spec := "depthNames", unfollowed := true, recurses := true, named := ["lamplighter/image.checks", "lamplighter/code.kinds", "lamplighter/word.signs"], plainKeys := false, apart := false, laid := [("lamplighter/word.signs", laid_lamplighter_word_signs), ("lamplighter/code.kinds", laid_lamplighter_code_kinds), ("lamplighter/image.checks", laid_lamplighter_image_checks)], narrowed := true }
def DepthNamesUptoSaid : Prop := depthNamesUptoRow.holds Tryd.pinned (OpenSpec.upto depthNamesSpec)

/-- 'lamplighterlaw18.DepthCalls', WHERE WHAT IT READS IS OF BULK AT MOST 1048576: true; the input reads as it did. -/
def depthCallsUptoRow : OpenClaim := { program := "ytkmbepgofajfkaadoor", sum := "eb9386a42feb0b080306c04c3cfbfef229e79a2f9c7a2ac2703b2e81086b3a75", func := "lamplighter/lamplighterlaw18.DepthCalls", spec := "depthCalls", unfollowed := true, recurses := true, named := ["lamplighter/image.checks", "lamplighter/code.kinds", "lamplighter/word.signs"], plainKeys := false, apart := false, laid := [("lamplighter/word.signs", laid_lamplighter_word_signs), ("lamplighter/code.kinds", laid_lamplighter_code_kinds), ("lamplighter/image.checks", laid_lamplighter_image_checks)], narrowed := true }
def DepthCallsUptoSaid : Prop := depthCallsUptoRow.holds Tryd.pinned (OpenSpec.upto depthCallsSpec)

/-- 'lamplighterlaw16.CfgDead', WHERE WHAT IT READS IS OF BULK AT MOST 1048576: true; the input reads as it did. -/
def cfgDeadUptoRow : OpenClaim := { program := "ytkmbepgofajfkaadoor", sum := "eb9386a42feb0b080306c04c3cfbfef229e79a2f9c7a2ac2703b2e81086b3a75", func := "lamplighter/lamplighterlaw16.CfgDead", spec := "cfgDead", unfollowed := true, recurses := true, named := ["lamplighter/image.checks", "lamplighter/code.kinds", "lamplighter/word.signs"], plainKeys := false, apart := false, laid := [("lamplighter/word.signs", laid_lamplighter_word_signs), ("lamplighter/code.kinds", laid_lamplighter_code_kinds), ("lamplighter/image.checks", laid_lamplighter_image_checks)], narrowed := true }
def CfgDeadUptoSaid : Prop := cfgDeadUptoRow.holds Tryd.pinned (OpenSpec.upto cfgDeadSpec)

/-- 'lamplighterlaw16.CfgPaths', WHERE WHAT IT READS IS OF BULK AT MOST 1048576: true; the input reads as it did. -/
def cfgPathsUptoRow : OpenClaim := { program := "ytkmbepgofajfkaadoor", sum := "eb9386a42feb0b080306c04c3cfbfef229e79a2f9c7a2ac2703b2e81086b3a75", func := "lamplighter/lamplighterlaw16.CfgPaths", spec := "cfgPaths", unfollowed := true, recurses := true, named := ["lamplighter/image.checks", "lamplighter/code.kinds", "lamplighter/word.signs"], plainKeys := false, apart := false, laid := [("lamplighter/word.signs", laid_lamplighter_word_signs), ("lamplighter/code.kinds", laid_lamplighter_code_kinds), ("lamplighter/image.checks", laid_lamplighter_image_checks)], narrowed := true }
def CfgPathsUptoSaid : Prop := cfgPathsUptoRow.holds Tryd.pinned (OpenSpec.upto cfgPathsSpec)

/-- 'lamplighterlaw16.CfgRows', WHERE WHAT IT READS IS OF BULK AT MOST 1048576: true; the input reads as it did. -/
def cfgRowsUptoRow : OpenClaim := { program := "ytkmbepgofajfkaadoor", sum := "eb9386a42feb0b080306c04c3cfbfef229e79a2f9c7a2ac2703b2e81086b3a75", func := "lamplighter/lamplighterlaw16.CfgRows", spec := "cfgRows", unfollowed := true, recurses := true, named := ["lamplighter/image.checks", "lamplighter/code.kinds", "lamplighter/word.signs"], plainKeys := false, apart := false, laid := [("lamplighter/word.signs", laid_lamplighter_word_signs), ("lamplighter/code.kinds", laid_lamplighter_code_kinds), ("lamplighter/image.checks", laid_lamplighter_image_checks)], narrowed := true }
def CfgRowsUptoSaid : Prop := cfgRowsUptoRow.holds Tryd.pinned (OpenSpec.upto cfgRowsSpec)

/-- 'lamplighterlaw16.CfgNames', WHERE WHAT IT READS IS OF BULK AT MOST 1048576: true; the input reads as it did. -/
def cfgNamesUptoRow : OpenClaim := { program := "ytkmbepgofajfkaadoor", sum := "eb9386a42feb0b080306c04c3cfbfef229e79a2f9c7a2ac2703b2e81086b3a75", func := "lamplighter/lamplighterlaw16.CfgNames", spec := "cfgNames", unfollowed := true, recurses := true, named := ["lamplighter/image.checks", "lamplighter/code.kinds", "lamplighter/word.signs"], plainKeys := false, apart := false, laid := [("lamplighter/word.signs", laid_lamplighter_word_signs), ("lamplighter/code.kinds", laid_lamplighter_code_kinds), ("lamplighter/image.checks", laid_lamplighter_image_checks)], narrowed := true }
def CfgNamesUptoSaid : Prop := cfgNamesUptoRow.holds Tryd.pinned (OpenSpec.upto cfgNamesSpec)

/-- 'lamplighterlaw16.CfgCalls', WHERE WHAT IT READS IS OF BULK AT MOST 1048576: true; the input reads as it did. -/
def cfgCallsUptoRow : OpenClaim := { program := "ytkmbepgofajfkaadoor", sum := "eb9386a42feb0b080306c04c3cfbfef229e79a2f9c7a2ac2703b2e81086b3a75", func := "lamplighter/lamplighterlaw16.CfgCalls", spec := "cfgCalls", unfollowed := true, recurses := true, named := ["lamplighter/image.checks", "lamplighter/code.kinds", "lamplighter/word.signs"], plainKeys := false, apart := false, laid := [("lamplighter/word.signs", laid_lamplighter_word_signs), ("lamplighter/code.kinds", laid_lamplighter_code_kinds), ("lamplighter/image.checks", laid_lamplighter_image_checks)], narrowed := true }
def CfgCallsUptoSaid : Prop := cfgCallsUptoRow.holds Tryd.pinned (OpenSpec.upto cfgCallsSpec)

end Rows
end Go.Proofs.YtkmbepgofajfkaaDoor
