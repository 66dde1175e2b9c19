/-
  NARROWER THAN 'FOR EVERY INPUT', by the rows' own cells (each row's printed sentence says how): LinesTakes: laid · LinesSets: laid · LinesTurned: laid · LinesNames: laid · LinesCalls: laid · MaskNames: laid · MaskOrder: laid · MaskCalls: laid.
  DERIVED. THE GIVEN ROWS OF THIS SEAT. 8 by the template 'for every input the law returns true; each argument reads behind the call as it read before'; 0 by the template 'total and deterministic' (their statements: YtenhcejelicjfaaDoorTotals.lean).
  GIVEN WITH THE SEED: the statements are not yours to turn. If you find one false, say at which input.
  Laid BY PROGRAM, IN A SANDBOX (cutbox-rows.mjs): the forced cells as the released guide's own fill.sh prints them over the translation 264f6fc17a289b57… (all of the seat's roots in one cut). By AI agents, Wed Nov 11 2026. No macro, syntax, notation, axiom, sorry.
-/
import Derived.Test.YtenhcejelicjfaaDoorChecked
import GoSem.Claim
import GoSem.ClaimJoined
import GoSem.ClaimMapViews
import Derived.JoinedTies
import Derived.KernelRfl
namespace Go.Proofs.YtenhcejelicjfaaDoor
/- THE CELL 'sum', in the pinned program and in every row, IS THE sha256 OF THE DUMP (.gsa) THAT YtenhcejelicjfaaDoorProg.lean LOADS. Nothing in Lean hashes anything: it is a label: what it is worth is what the hold of that sum in a sandbox is worth. -/
noncomputable def Tryd.pinned : Pinned := { name := "ytenhcejelicjfaadoor", sum := "264f6fc17a289b570b5506eee67e76266866ec28c5ca1bd82fb55dc6e230cecd", checked := Tryd.checked }
namespace Rows
def none {H : Type} : Left H := { results := [], args := [] }

/- WHAT THE LISTED PACKAGE-LEVEL VARIABLES READ AS WHEN THE CALL BEGINS. Each datum BY PROGRAM (the guide's laid-datum.mjs) off the statement by which the dump's own 'gosem.cut.vars' lays the variable. In a bare row this is a premise. The card (YtenhcejelicjfaaDoorCards.lean) ties it to the program's text. -/
def laid_math_bits_deBruijn32tab {H : Type} : DataW H := .agg [.lit (.int .u8 0), .lit (.int .u8 1), .lit (.int .u8 28), .lit (.int .u8 2), .lit (.int .u8 29), .lit (.int .u8 14), .lit (.int .u8 24), .lit (.int .u8 3), .lit (.int .u8 30), .lit (.int .u8 22), .lit (.int .u8 20), .lit (.int .u8 15), .lit (.int .u8 25), .lit (.int .u8 17), .lit (.int .u8 4), .lit (.int .u8 8), .lit (.int .u8 31), .lit (.int .u8 27), .lit (.int .u8 13), .lit (.int .u8 23), .lit (.int .u8 21), .lit (.int .u8 19), .lit (.int .u8 16), .lit (.int .u8 7), .lit (.int .u8 26), .lit (.int .u8 12), .lit (.int .u8 18), .lit (.int .u8 6), .lit (.int .u8 11), .lit (.int .u8 5), .lit (.int .u8 10), .lit (.int .u8 9)]
def laid_lamplighter_word_signs {H : Type} : DataW H := .agg [.lit (.string []), .lit (.string [43]), .lit (.string [45]), .lit (.string [42]), .lit (.string [47]), .lit (.string [37]), .lit (.string [115, 47]), .lit (.string [115, 37]), .lit (.string [38]), .lit (.string [124]), .lit (.string [94]), .lit (.string [60, 60]), .lit (.string [62, 62]), .lit (.string [115, 62, 62]), .lit (.string [61, 61]), .lit (.string [33, 61]), .lit (.string [60]), .lit (.string [60, 61]), .lit (.string [115, 60]), .lit (.string [115, 60, 61])]
def laid_lamplighter_code_kinds {H : Type} : DataW H := .slice [.agg [.lit (.string []), .lit (.int .i64 0), .lit (.int .i64 0), .lit (.int .i64 0), .lit (.int .i64 0), .lit (.int .i64 0)], .agg [.lit (.string [104, 97, 108, 116]), .lit (.int .i64 0), .lit (.int .i64 0), .lit (.int .i64 0), .lit (.int .i64 0), .lit (.int .i64 0)], .agg [.lit (.string [112, 117, 115, 104]), .lit (.int .i64 2), .lit (.int .i64 0), .lit (.int .i64 0), .lit (.int .i64 0), .lit (.int .i64 1)], .agg [.lit (.string [112, 111, 112]), .lit (.int .i64 0), .lit (.int .i64 0), .lit (.int .i64 0), .lit (.int .i64 1), .lit (.int .i64 0)], .agg [.lit (.string [108, 100]), .lit (.int .i64 1), .lit (.int .i64 0), .lit (.int .i64 0), .lit (.int .i64 0), .lit (.int .i64 1)], .agg [.lit (.string [115, 116]), .lit (.int .i64 1), .lit (.int .i64 3), .lit (.int .i64 0), .lit (.int .i64 1), .lit (.int .i64 0)], .agg [.lit (.string [108, 100, 120]), .lit (.int .i64 1), .lit (.int .i64 4), .lit (.int .i64 0), .lit (.int .i64 1), .lit (.int .i64 1)], .agg [.lit (.string [115, 116, 120]), .lit (.int .i64 1), .lit (.int .i64 4), .lit (.int .i64 3), .lit (.int .i64 2), .lit (.int .i64 0)], .agg [.lit (.string [108, 100, 108]), .lit (.int .i64 1), .lit (.int .i64 0), .lit (.int .i64 0), .lit (.int .i64 0), .lit (.int .i64 1)], .agg [.lit (.string [115, 116, 108]), .lit (.int .i64 1), .lit (.int .i64 3), .lit (.int .i64 0), .lit (.int .i64 1), .lit (.int .i64 0)], .agg [.lit (.string [105, 110]), .lit (.int .i64 1), .lit (.int .i64 0), .lit (.int .i64 0), .lit (.int .i64 0), .lit (.int .i64 1)], .agg [.lit (.string [111, 117, 116]), .lit (.int .i64 1), .lit (.int .i64 0), .lit (.int .i64 0), .lit (.int .i64 1), .lit (.int .i64 0)], .agg [.lit (.string [98, 105, 110]), .lit (.int .i64 7), .lit (.int .i64 0), .lit (.int .i64 0), .lit (.int .i64 2), .lit (.int .i64 1)], .agg [.lit (.string [117, 110]), .lit (.int .i64 8), .lit (.int .i64 0), .lit (.int .i64 0), .lit (.int .i64 1), .lit (.int .i64 1)], .agg [.lit (.string [99, 117, 116]), .lit (.int .i64 3), .lit (.int .i64 0), .lit (.int .i64 0), .lit (.int .i64 1), .lit (.int .i64 1)], .agg [.lit (.string [106, 109, 112]), .lit (.int .i64 1), .lit (.int .i64 0), .lit (.int .i64 0), .lit (.int .i64 0), .lit (.int .i64 0)], .agg [.lit (.string [106, 122]), .lit (.int .i64 1), .lit (.int .i64 0), .lit (.int .i64 0), .lit (.int .i64 1), .lit (.int .i64 0)], .agg [.lit (.string [99, 97, 108, 108]), .lit (.int .i64 1), .lit (.int .i64 0), .lit (.int .i64 0), .lit (.int .i64 0), .lit (.int .i64 1)], .agg [.lit (.string [114, 101, 116]), .lit (.int .i64 0), .lit (.int .i64 0), .lit (.int .i64 0), .lit (.int .i64 1), .lit (.int .i64 0)], .agg [.lit (.string [101, 110]), .lit (.int .i64 5), .lit (.int .i64 0), .lit (.int .i64 0), .lit (.int .i64 0), .lit (.int .i64 0)], .agg [.lit (.string [100, 105, 115]), .lit (.int .i64 5), .lit (.int .i64 0), .lit (.int .i64 0), .lit (.int .i64 0), .lit (.int .i64 0)], .agg [.lit (.string [108, 118, 108]), .lit (.int .i64 6), .lit (.int .i64 0), .lit (.int .i64 0), .lit (.int .i64 0), .lit (.int .i64 0)], .agg [.lit (.string [112, 116]), .lit (.int .i64 0), .lit (.int .i64 0), .lit (.int .i64 0), .lit (.int .i64 0), .lit (.int .i64 0)], .agg [.lit (.string [98, 101, 103]), .lit (.int .i64 1), .lit (.int .i64 0), .lit (.int .i64 0), .lit (.int .i64 0), .lit (.int .i64 0)], .agg [.lit (.string [101, 110, 100]), .lit (.int .i64 1), .lit (.int .i64 0), .lit (.int .i64 0), .lit (.int .i64 0), .lit (.int .i64 0)]] []

/-- 'lamplighterlaw02.LinesTakes': WHATEVER THE INPUT: true; the input reads as it did. -/
def linesTakesSpec : ChangeSpec := { name := "linesTakes", fn := fun _ => fun
  | [d1, d2, d3, d4, d5, d6, d7] => { results := [.lit (.bool true)], args := [d1, d2, d3, d4, d5, d6, d7] }
  | _ => none }
def linesTakesRow : OpenClaim := { program := "ytenhcejelicjfaadoor", sum := "264f6fc17a289b570b5506eee67e76266866ec28c5ca1bd82fb55dc6e230cecd", func := "lamplighter/lamplighterlaw02.LinesTakes", spec := "linesTakes", unfollowed := true, recurses := true, named := ["math/bits.deBruijn32tab"], apart := false, laid := [("math/bits.deBruijn32tab", laid_math_bits_deBruijn32tab)] }
def LinesTakesSaid : Prop := linesTakesRow.holds Tryd.pinned (OpenSpec.ofChange linesTakesSpec)

/-- ITS FALSE NEIGHBOUR: 'it returns false'. Refute it at one input. -/
def linesTakesWrong : ChangeSpec := { name := "linesTakes", fn := fun _ => fun
  | [d1, d2, d3, d4, d5, d6, d7] => { results := [.lit (.bool false)], args := [d1, d2, d3, d4, d5, d6, d7] }
  | _ => none }
def LinesTakesWrongFalsely : Prop := linesTakesRow.holds Tryd.pinned (OpenSpec.ofChange linesTakesWrong)

/-- 'lamplighterlaw02.LinesSets': WHATEVER THE INPUT: true; the input reads as it did. -/
def linesSetsSpec : ChangeSpec := { name := "linesSets", fn := fun _ => fun
  | [d1, d2] => { results := [.lit (.bool true)], args := [d1, d2] }
  | _ => none }
def linesSetsRow : OpenClaim := { program := "ytenhcejelicjfaadoor", sum := "264f6fc17a289b570b5506eee67e76266866ec28c5ca1bd82fb55dc6e230cecd", func := "lamplighter/lamplighterlaw02.LinesSets", spec := "linesSets", unfollowed := true, recurses := true, named := ["math/bits.deBruijn32tab"], apart := false, laid := [("math/bits.deBruijn32tab", laid_math_bits_deBruijn32tab)] }
def LinesSetsSaid : Prop := linesSetsRow.holds Tryd.pinned (OpenSpec.ofChange linesSetsSpec)

/-- ITS FALSE NEIGHBOUR: 'it returns false'. Refute it at one input. -/
def linesSetsWrong : ChangeSpec := { name := "linesSets", fn := fun _ => fun
  | [d1, d2] => { results := [.lit (.bool false)], args := [d1, d2] }
  | _ => none }
def LinesSetsWrongFalsely : Prop := linesSetsRow.holds Tryd.pinned (OpenSpec.ofChange linesSetsWrong)

/-- 'lamplighterlaw02.LinesTurned': WHATEVER THE INPUT: true; the input reads as it did. -/
def linesTurnedSpec : ChangeSpec := { name := "linesTurned", fn := fun _ => fun
  | [d1, d2, d3, d4, d5] => { results := [.lit (.bool true)], args := [d1, d2, d3, d4, d5] }
  | _ => none }
def linesTurnedRow : OpenClaim := { program := "ytenhcejelicjfaadoor", sum := "264f6fc17a289b570b5506eee67e76266866ec28c5ca1bd82fb55dc6e230cecd", func := "lamplighter/lamplighterlaw02.LinesTurned", spec := "linesTurned", unfollowed := true, recurses := true, named := ["math/bits.deBruijn32tab"], apart := false, laid := [("math/bits.deBruijn32tab", laid_math_bits_deBruijn32tab)] }
def LinesTurnedSaid : Prop := linesTurnedRow.holds Tryd.pinned (OpenSpec.ofChange linesTurnedSpec)

/-- ITS FALSE NEIGHBOUR: 'it returns false'. Refute it at one input. -/
def linesTurnedWrong : ChangeSpec := { name := "linesTurned", fn := fun _ => fun
  | [d1, d2, d3, d4, d5] => { results := [.lit (.bool false)], args := [d1, d2, d3, d4, d5] }
  | _ => none }
def LinesTurnedWrongFalsely : Prop := linesTurnedRow.holds Tryd.pinned (OpenSpec.ofChange linesTurnedWrong)

/-- 'lamplighterlaw02.LinesNames': WHATEVER THE INPUT: true; the input reads as it did. -/
def linesNamesSpec : ChangeSpec := { name := "linesNames", fn := fun _ => fun
  | [] => { results := [.lit (.bool true)], args := [] }
  | _ => none }
def linesNamesRow : OpenClaim := { program := "ytenhcejelicjfaadoor", sum := "264f6fc17a289b570b5506eee67e76266866ec28c5ca1bd82fb55dc6e230cecd", func := "lamplighter/lamplighterlaw02.LinesNames", spec := "linesNames", unfollowed := true, recurses := true, named := ["math/bits.deBruijn32tab"], apart := false, laid := [("math/bits.deBruijn32tab", laid_math_bits_deBruijn32tab)] }
def LinesNamesSaid : Prop := linesNamesRow.holds Tryd.pinned (OpenSpec.ofChange linesNamesSpec)

/-- ITS FALSE NEIGHBOUR: 'it returns false'. Refute it at one input. -/
def linesNamesWrong : ChangeSpec := { name := "linesNames", fn := fun _ => fun
  | [] => { results := [.lit (.bool false)], args := [] }
  | _ => none }
def LinesNamesWrongFalsely : Prop := linesNamesRow.holds Tryd.pinned (OpenSpec.ofChange linesNamesWrong)

/-- 'lamplighterlaw02.LinesCalls': WHATEVER THE INPUT: true; the input reads as it did. -/
def linesCallsSpec : ChangeSpec := { name := "linesCalls", fn := fun _ => fun
  | [d1, d2, d3, d4, d5, d6, d7] => { results := [.lit (.bool true)], args := [d1, d2, d3, d4, d5, d6, d7] }
  | _ => none }
def linesCallsRow : OpenClaim := { program := "ytenhcejelicjfaadoor", sum := "264f6fc17a289b570b5506eee67e76266866ec28c5ca1bd82fb55dc6e230cecd", func := "lamplighter/lamplighterlaw02.LinesCalls", spec := "linesCalls", unfollowed := true, recurses := true, named := ["math/bits.deBruijn32tab"], apart := false, laid := [("math/bits.deBruijn32tab", laid_math_bits_deBruijn32tab)] }
def LinesCallsSaid : Prop := linesCallsRow.holds Tryd.pinned (OpenSpec.ofChange linesCallsSpec)

/-- ITS FALSE NEIGHBOUR: 'it returns false'. Refute it at one input. -/
def linesCallsWrong : ChangeSpec := { name := "linesCalls", fn := fun _ => fun
  | [d1, d2, d3, d4, d5, d6, d7] => { results := [.lit (.bool false)], args := [d1, d2, d3, d4, d5, d6, d7] }
  | _ => none }
def LinesCallsWrongFalsely : Prop := linesCallsRow.holds Tryd.pinned (OpenSpec.ofChange linesCallsWrong)

/-- 'lamplighterlaw22.MaskNames': WHATEVER THE INPUT: true; the input reads as it did. -/
def maskNamesSpec : ChangeSpec := { name := "maskNames", fn := fun _ => fun
  | [] => { results := [.lit (.bool true)], args := [] }
  | _ => none }
def maskNamesRow : OpenClaim := { program := "ytenhcejelicjfaadoor", sum := "264f6fc17a289b570b5506eee67e76266866ec28c5ca1bd82fb55dc6e230cecd", func := "lamplighter/lamplighterlaw22.MaskNames", spec := "maskNames", named := ["lamplighter/code.kinds", "lamplighter/word.signs"], apart := false, laid := [("lamplighter/word.signs", laid_lamplighter_word_signs), ("lamplighter/code.kinds", laid_lamplighter_code_kinds)] }
def MaskNamesSaid : Prop := maskNamesRow.holds Tryd.pinned (OpenSpec.ofChange maskNamesSpec)

/-- ITS FALSE NEIGHBOUR: 'it returns false'. Refute it at one input. -/
def maskNamesWrong : ChangeSpec := { name := "maskNames", fn := fun _ => fun
  | [] => { results := [.lit (.bool false)], args := [] }
  | _ => none }
def MaskNamesWrongFalsely : Prop := maskNamesRow.holds Tryd.pinned (OpenSpec.ofChange maskNamesWrong)

/-- 'lamplighterlaw22.MaskOrder': WHATEVER THE INPUT: true; the input reads as it did. -/
def maskOrderSpec : ChangeSpec := { name := "maskOrder", fn := fun _ => fun
  | [d1, d2, d3, d4] => { results := [.lit (.bool true)], args := [d1, d2, d3, d4] }
  | _ => none }
def maskOrderRow : OpenClaim := { program := "ytenhcejelicjfaadoor", sum := "264f6fc17a289b570b5506eee67e76266866ec28c5ca1bd82fb55dc6e230cecd", func := "lamplighter/lamplighterlaw22.MaskOrder", spec := "maskOrder", named := ["lamplighter/code.kinds", "lamplighter/word.signs"], apart := false, laid := [("lamplighter/word.signs", laid_lamplighter_word_signs), ("lamplighter/code.kinds", laid_lamplighter_code_kinds)] }
def MaskOrderSaid : Prop := maskOrderRow.holds Tryd.pinned (OpenSpec.ofChange maskOrderSpec)

/-- ITS FALSE NEIGHBOUR: 'it returns false'. Refute it at one input. -/
def maskOrderWrong : ChangeSpec := { name := "maskOrder", fn := fun _ => fun
  | [d1, d2, d3, d4] => { results := [.lit (.bool false)], args := [d1, d2, d3, d4] }
  | _ => none }
def MaskOrderWrongFalsely : Prop := maskOrderRow.holds Tryd.pinned (OpenSpec.ofChange maskOrderWrong)

/-- 'lamplighterlaw22.MaskCalls': WHATEVER THE INPUT: true; the input reads as it did. -/
def maskCallsSpec : ChangeSpec := { name := "maskCalls", fn := fun _ => fun
  | [d1, d2, d3, d4, d5, d6, d7] => { results := [.lit (.bool true)], args := [d1, d2, d3, d4, d5, d6, d7] }
  | _ => none }
def maskCallsRow : OpenClaim := { program := "ytenhcejelicjfaadoor", sum := "264f6fc17a289b570b5506eee67e76266866ec28c5ca1bd82fb55dc6e230cecd", func := "lamplighter/lamplighterlaw22.MaskCalls", spec := "maskCalls", named := ["lamplighter/code.kinds", "lamplighter/word.signs"], apart := false, laid := [("lamplighter/word.signs", laid_lamplighter_word_signs), ("lamplighter/code.kinds", laid_lamplighter_code_kinds)] }
def MaskCallsSaid : Prop := maskCallsRow.holds Tryd.pinned (OpenSpec.ofChange maskCallsSpec)

/-- ITS FALSE NEIGHBOUR: 'it returns false'. Refute it at one input. -/
def maskCallsWrong : ChangeSpec := { name := "maskCalls", fn := fun _ => fun
  | [d1, d2, d3, d4, d5, d6, d7] => { results := [.lit (.bool false)], args := [d1, d2, d3, d4, d5, d6, d7] }
  | _ => none }
def MaskCallsWrongFalsely : Prop := maskCallsRow.holds Tryd.pinned (OpenSpec.ofChange maskCallsWrong)

/- THE SECOND FORM. 'bulk': how many values and letters a reading holds, each counted each time it is reached (what is shared counts as often as it is met; a slice's spare places count too). A statement '..UptoSaid' is the law's where the arguments, and the package variables that the reading takes, are together of bulk at most 1048576: NARROWER than '..Said'. Prove '..Said' where nothing that the law and all that it calls make is longer than what came in: it says more and counts as full. Else prove '..UptoSaid'. A law counts once. -/
mutual
def uptoBulk {H : Type} : DataW H → Nat
  | .lit (.string bytes) => bytes.length + 1
  | .lit _ => 1
  | .nil => 1
  | .ptr d => uptoBulk d + 1
  | .slice elems spare => uptoBulkAll elems + uptoBulkAll spare + 1
  | .agg parts => uptoBulkAll parts + 1
  | .iface _ d => uptoBulk d + 1
  | .map entries => uptoBulkEntries entries + 1
  | .held _ => 1
def uptoBulkAll {H : Type} : List (DataW H) → Nat
  | [] => 0
  | d :: r => uptoBulk d + uptoBulkAll r
def uptoBulkEntries {H : Type} : List (Lit × DataW H) → Nat
  | [] => 0
  | x :: r => uptoBulkEntry x + uptoBulkEntries r
def uptoBulkEntry {H : Type} : Lit × DataW H → Nat
  | (.string bytes, d) => bytes.length + uptoBulk d + 1
  | (_, d) => uptoBulk d + 1
 end
def uptoSmall : (H : Type) → List (DataW H) → Bool := fun _ ds => decide (uptoBulkAll ds ≤ 1048576)
def OpenSpec.upto (s : _root_.Go.ChangeSpec) : _root_.Go.OpenSpec := { _root_.Go.OpenSpec.ofChange s with cond := some uptoSmall }

/-- 'lamplighterlaw02.LinesTakes', WHERE WHAT IT READS IS OF BULK AT MOST 1048576: true; the input reads as it did. -/
def linesTakesUptoRow : OpenClaim := { program := "ytenhcejelicjfaadoor", sum := "264f6fc17a289b570b5506eee67e76266866ec28c5ca1bd82fb55dc6e230cecd", func := "lamplighter/lamplighterlaw02.LinesTakes", spec := "linesTakes", unfollowed := true, recurses := true, named := ["math/bits.deBruijn32tab"], apart := false, laid := [("math/bits.deBruijn32tab", laid_math_bits_deBruijn32tab)], narrowed := true }
def LinesTakesUptoSaid : Prop := linesTakesUptoRow.holds Tryd.pinned (OpenSpec.upto linesTakesSpec)

/-- 'lamplighterlaw02.LinesSets', WHERE WHAT IT READS IS OF BULK AT MOST 1048576: true; the input reads as it did. -/
def linesSetsUptoRow : OpenClaim := { program := "ytenhcejelicjfaadoor", sum := "264f6fc17a289b570b5506eee67e76266866ec28c5ca1bd82fb55dc6e230cecd", func := "lamplighter/lamplighterlaw02.LinesSets", spec := "linesSets", unfollowed := true, recurses := true, named := ["math/bits.deBruijn32tab"], apart := false, laid := [("math/bits.deBruijn32tab", laid_math_bits_deBruijn32tab)], narrowed := true }
def LinesSetsUptoSaid : Prop := linesSetsUptoRow.holds Tryd.pinned (OpenSpec.upto linesSetsSpec)

/-- 'lamplighterlaw02.LinesTurned', WHERE WHAT IT READS IS OF BULK AT MOST 1048576: true; the input reads as it did. -/
def linesTurnedUptoRow : OpenClaim := { program := "ytenhcejelicjfaadoor", sum := "264f6fc17a289b570b5506eee67e76266866ec28c5ca1bd82fb55dc6e230cecd", func := "lamplighter/lamplighterlaw02.LinesTurned", spec := "linesTurned", unfollowed := true, recurses := true, named := ["math/bits.deBruijn32tab"], apart := false, laid := [("math/bits.deBruijn32tab", laid_math_bits_deBruijn32tab)], narrowed := true }
def LinesTurnedUptoSaid : Prop := linesTurnedUptoRow.holds Tryd.pinned (OpenSpec.upto linesTurnedSpec)

/-- 'lamplighterlaw02.LinesNames', WHERE WHAT IT READS IS OF BULK AT MOST 1048576: true; the input reads as it did. -/
def linesNamesUptoRow : OpenClaim := { program := "ytenhcejelicjfaadoor", sum := "264f6fc17a289b570b5506eee67e76266866ec28c5ca1bd82fb55dc6e230cecd", func := "lamplighter/lamplighterlaw02.LinesNames", spec := "linesNames", unfollowed := true, recurses := true, named := ["math/bits.deBruijn32tab"], apart := false, laid := [("math/bits.deBruijn32tab", laid_math_bits_deBruijn32tab)], narrowed := true }
def LinesNamesUptoSaid : Prop := linesNamesUptoRow.holds Tryd.pinned (OpenSpec.upto linesNamesSpec)

/-- 'lamplighterlaw02.LinesCalls', WHERE WHAT IT READS IS OF BULK AT MOST 1048576: true; the input reads as it did. -/
def linesCallsUptoRow : OpenClaim := { program := "ytenhcejelicjfaadoor", sum := "264f6fc17a289b570b5506eee67e76266866ec28c5ca1bd82fb55dc6e230cecd", func := "lamplighter/lamplighterlaw02.LinesCalls", spec := "linesCalls", unfollowed := true, recurses := true, named := ["math/bits.deBruijn32tab"], apart := false, laid := [("math/bits.deBruijn32tab", laid_math_bits_deBruijn32tab)], narrowed := true }
def LinesCallsUptoSaid : Prop := linesCallsUptoRow.holds Tryd.pinned (OpenSpec.upto linesCallsSpec)

/-- 'lamplighterlaw22.MaskNames', WHERE WHAT IT READS IS OF BULK AT MOST 1048576: true; the input reads as it did. -/
def maskNamesUptoRow : OpenClaim := { program := "ytenhcejelicjfaadoor", sum := "264f6fc17a289b570b5506eee67e76266866ec28c5ca1bd82fb55dc6e230cecd", func := "lamplighter/lamplighterlaw22.MaskNames", spec := "maskNames", named := ["lamplighter/code.kinds", "lamplighter/word.signs"], apart := false, laid := [("lamplighter/word.signs", laid_lamplighter_word_signs), ("lamplighter/code.kinds", laid_lamplighter_code_kinds)], narrowed := true }
def MaskNamesUptoSaid : Prop := maskNamesUptoRow.holds Tryd.pinned (OpenSpec.upto maskNamesSpec)

/-- 'lamplighterlaw22.MaskOrder', WHERE WHAT IT READS IS OF BULK AT MOST 1048576: true; the input reads as it did. -/
def maskOrderUptoRow : OpenClaim := { program := "ytenhcejelicjfaadoor", sum := "264f6fc17a289b570b5506eee67e76266866ec28c5ca1bd82fb55dc6e230cecd", func := "lamplighter/lamplighterlaw22.MaskOrder", spec := "maskOrder", named := ["lamplighter/code.kinds", "lamplighter/word.signs"], apart := false, laid := [("lamplighter/word.signs", laid_lamplighter_word_signs), ("lamplighter/code.kinds", laid_lamplighter_code_kinds)], narrowed := true }
def MaskOrderUptoSaid : Prop := maskOrderUptoRow.holds Tryd.pinned (OpenSpec.upto maskOrderSpec)

/-- 'lamplighterlaw22.MaskCalls', WHERE WHAT IT READS IS OF BULK AT MOST 1048576: true; the input reads as it did. -/
def maskCallsUptoRow : OpenClaim := { program := "ytenhcejelicjfaadoor", sum := "264f6fc17a289b570b5506eee67e76266866ec28c5ca1bd82fb55dc6e230cecd", func := "lamplighter/lamplighterlaw22.MaskCalls", spec := "maskCalls", named := ["lamplighter/code.kinds", "lamplighter/word.signs"], apart := false, laid := [("lamplighter/word.signs", laid_lamplighter_word_signs), ("lamplighter/code.kinds", laid_lamplighter_code_kinds)], narrowed := true }
def MaskCallsUptoSaid : Prop := maskCallsUptoRow.holds Tryd.pinned (OpenSpec.upto maskCallsSpec)

end Rows
end Go.Proofs.YtenhcejelicjfaaDoor
