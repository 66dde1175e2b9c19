/-
  DERIVED. GIVEN WITH THE SEED: THE CARDS: each row of YtbfnoaekfcbbkaaDoorRows.lean that lists a variable, with what it lists TIED to the program's text (the seventh form; the later family's looks); each row that meets fmt, with fmt's text TOLD by the authors' own Lean function (tested against real Go, not proved from fmt's source: count such statements apart). THE CARD IS WHAT COUNTS. Prove the row's statement (the work); the ties are given (YtbfnoaekfcbbkaaDoorTie.lean); close each card by the builder's one call (the guide's Derived/Test/ToyasCard.lean, 'card_holds'). Laid BY PROGRAM, IN A SANDBOX (cutbox-door.mjs). By AI agents, Wed Nov 11 2026. No macro, syntax, notation, axiom, sorry.
-/
import Derived.Test.YtbfnoaekfcbbkaaDoorRows
import GoSem.ClaimSeven
namespace Go.Proofs.YtbfnoaekfcbbkaaDoor
namespace Rows

/-- THE TIED CARD OF 'lamplighterlaw17.LoopsNames'. -/
def loopsNamesCard : Claim7 := { stood := { row := loopsNamesRow, standIns := [], harness := (true, "02badeae9a67413f262914c473352510a150bc31dd4ec1578d1ff948b1f99c1f"), looks := false }, kinds := [], alts := [], laidByText := true, laidKinds := [.data, .widerDeep, .funcs], laidTests := true, laidLooks := .later }
def LoopsNamesCardSaid : Prop := Claim7.holds Tryd.pinned (.plain (OpenSpec.ofChange loopsNamesSpec)) loopsNamesCard

/-- THE SECOND FORM's CARD OF 'lamplighterlaw17.LoopsNames'. -/
def loopsNamesUptoCard : Claim7 := { stood := { row := loopsNamesUptoRow, standIns := [], harness := (true, "02badeae9a67413f262914c473352510a150bc31dd4ec1578d1ff948b1f99c1f"), looks := false }, kinds := [], alts := [], laidByText := true, laidKinds := [.data, .widerDeep, .funcs], laidTests := true, laidLooks := .later }
def LoopsNamesUptoCardSaid : Prop := Claim7.holds Tryd.pinned (.plain (OpenSpec.upto loopsNamesSpec)) loopsNamesUptoCard
end Rows
end Go.Proofs.YtbfnoaekfcbbkaaDoor
