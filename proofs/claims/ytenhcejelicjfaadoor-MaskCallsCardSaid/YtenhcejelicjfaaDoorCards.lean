/-
  DERIVED. GIVEN WITH THE SEED: THE CARDS: each row of YtenhcejelicjfaaDoorRows.lean that lists a variable, with what it lists TIED to the program's text (the seventh form; the later family's looks); each row that meets fmt, with fmt's text TOLD by the authors' own Lean function (tested against real Go, not proved from fmt's source: count such statements apart). THE CARD IS WHAT COUNTS. Prove the row's statement (the work); the ties are given (YtenhcejelicjfaaDoorTie.lean); close each card by the builder's one call (the guide's Derived/Test/ToyasCard.lean, 'card_holds'). Laid BY PROGRAM, IN A SANDBOX (cutbox-door.mjs). By AI agents, Wed Nov 11 2026. No macro, syntax, notation, axiom, sorry.
-/
import Derived.Test.YtenhcejelicjfaaDoorRows
import GoSem.ClaimSeven
namespace Go.Proofs.YtenhcejelicjfaaDoor
namespace Rows

/-- THE TIED CARD OF 'lamplighterlaw02.LinesTakes'. -/
def linesTakesCard : Claim7 := { stood := { row := linesTakesRow, standIns := [], harness := (true, "2349a5930ca399da8a331d5a597aabad50a32acd80645de4e52e2bab3b08e029"), looks := false }, kinds := [], alts := [], laidByText := true, laidKinds := [.data], laidTests := true, laidLooks := .later }
def LinesTakesCardSaid : Prop := Claim7.holds Tryd.pinned (.plain (OpenSpec.ofChange linesTakesSpec)) linesTakesCard

/-- THE TIED CARD OF 'lamplighterlaw02.LinesSets'. -/
def linesSetsCard : Claim7 := { stood := { row := linesSetsRow, standIns := [], harness := (true, "2349a5930ca399da8a331d5a597aabad50a32acd80645de4e52e2bab3b08e029"), looks := false }, kinds := [], alts := [], laidByText := true, laidKinds := [.data], laidTests := true, laidLooks := .later }
def LinesSetsCardSaid : Prop := Claim7.holds Tryd.pinned (.plain (OpenSpec.ofChange linesSetsSpec)) linesSetsCard

/-- THE TIED CARD OF 'lamplighterlaw02.LinesTurned'. -/
def linesTurnedCard : Claim7 := { stood := { row := linesTurnedRow, standIns := [], harness := (true, "2349a5930ca399da8a331d5a597aabad50a32acd80645de4e52e2bab3b08e029"), looks := false }, kinds := [], alts := [], laidByText := true, laidKinds := [.data], laidTests := true, laidLooks := .later }
def LinesTurnedCardSaid : Prop := Claim7.holds Tryd.pinned (.plain (OpenSpec.ofChange linesTurnedSpec)) linesTurnedCard

/-- THE TIED CARD OF 'lamplighterlaw02.LinesNames'. -/
def linesNamesCard : Claim7 := { stood := { row := linesNamesRow, standIns := [], harness := (true, "2349a5930ca399da8a331d5a597aabad50a32acd80645de4e52e2bab3b08e029"), looks := false }, kinds := [], alts := [], laidByText := true, laidKinds := [.data], laidTests := true, laidLooks := .later }
def LinesNamesCardSaid : Prop := Claim7.holds Tryd.pinned (.plain (OpenSpec.ofChange linesNamesSpec)) linesNamesCard

/-- THE TIED CARD OF 'lamplighterlaw02.LinesCalls'. -/
def linesCallsCard : Claim7 := { stood := { row := linesCallsRow, standIns := [], harness := (true, "2349a5930ca399da8a331d5a597aabad50a32acd80645de4e52e2bab3b08e029"), looks := false }, kinds := [], alts := [], laidByText := true, laidKinds := [.data], laidTests := true, laidLooks := .later }
def LinesCallsCardSaid : Prop := Claim7.holds Tryd.pinned (.plain (OpenSpec.ofChange linesCallsSpec)) linesCallsCard

/-- THE TIED CARD OF 'lamplighterlaw22.MaskNames'. -/
def maskNamesCard : Claim7 := { stood := { row := maskNamesRow, standIns := [], harness := (true, "2349a5930ca399da8a331d5a597aabad50a32acd80645de4e52e2bab3b08e029"), looks := false }, kinds := [], alts := [], laidByText := true, laidKinds := [.data, .widerDeep], laidTests := true, laidLooks := .later }
def MaskNamesCardSaid : Prop := Claim7.holds Tryd.pinned (.plain (OpenSpec.ofChange maskNamesSpec)) maskNamesCard

/-- THE TIED CARD OF 'lamplighterlaw22.MaskOrder'. -/
def maskOrderCard : Claim7 := { stood := { row := maskOrderRow, standIns := [], harness := (true, "2349a5930ca399da8a331d5a597aabad50a32acd80645de4e52e2bab3b08e029"), looks := false }, kinds := [], alts := [], laidByText := true, laidKinds := [.data, .widerDeep], laidTests := true, laidLooks := .later }
def MaskOrderCardSaid : Prop := Claim7.holds Tryd.pinned (.plain (OpenSpec.ofChange maskOrderSpec)) maskOrderCard

/-- THE TIED CARD OF 'lamplighterlaw22.MaskCalls'. -/
def maskCallsCard : Claim7 := { stood := { row := maskCallsRow, standIns := [], harness := (true, "2349a5930ca399da8a331d5a597aabad50a32acd80645de4e52e2bab3b08e029"), looks := false }, kinds := [], alts := [], laidByText := true, laidKinds := [.data, .widerDeep], laidTests := true, laidLooks := .later }
def MaskCallsCardSaid : Prop := Claim7.holds Tryd.pinned (.plain (OpenSpec.ofChange maskCallsSpec)) maskCallsCard

/-- THE SECOND FORM's CARD OF 'lamplighterlaw02.LinesTakes'. -/
def linesTakesUptoCard : Claim7 := { stood := { row := linesTakesUptoRow, standIns := [], harness := (true, "2349a5930ca399da8a331d5a597aabad50a32acd80645de4e52e2bab3b08e029"), looks := false }, kinds := [], alts := [], laidByText := true, laidKinds := [.data], laidTests := true, laidLooks := .later }
def LinesTakesUptoCardSaid : Prop := Claim7.holds Tryd.pinned (.plain (OpenSpec.upto linesTakesSpec)) linesTakesUptoCard

/-- THE SECOND FORM's CARD OF 'lamplighterlaw02.LinesSets'. -/
def linesSetsUptoCard : Claim7 := { stood := { row := linesSetsUptoRow, standIns := [], harness := (true, "2349a5930ca399da8a331d5a597aabad50a32acd80645de4e52e2bab3b08e029"), looks := false }, kinds := [], alts := [], laidByText := true, laidKinds := [.data], laidTests := true, laidLooks := .later }
def LinesSetsUptoCardSaid : Prop := Claim7.holds Tryd.pinned (.plain (OpenSpec.upto linesSetsSpec)) linesSetsUptoCard

/-- THE SECOND FORM's CARD OF 'lamplighterlaw02.LinesTurned'. -/
def linesTurnedUptoCard : Claim7 := { stood := { row := linesTurnedUptoRow, standIns := [], harness := (true, "2349a5930ca399da8a331d5a597aabad50a32acd80645de4e52e2bab3b08e029"), looks := false }, kinds := [], alts := [], laidByText := true, laidKinds := [.data], laidTests := true, laidLooks := .later }
def LinesTurnedUptoCardSaid : Prop := Claim7.holds Tryd.pinned (.plain (OpenSpec.upto linesTurnedSpec)) linesTurnedUptoCard

/-- THE SECOND FORM's CARD OF 'lamplighterlaw02.LinesNames'. -/
def linesNamesUptoCard : Claim7 := { stood := { row := linesNamesUptoRow, standIns := [], harness := (true, "2349a5930ca399da8a331d5a597aabad50a32acd80645de4e52e2bab3b08e029"), looks := false }, kinds := [], alts := [], laidByText := true, laidKinds := [.data], laidTests := true, laidLooks := .later }
def LinesNamesUptoCardSaid : Prop := Claim7.holds Tryd.pinned (.plain (OpenSpec.upto linesNamesSpec)) linesNamesUptoCard

/-- THE SECOND FORM's CARD OF 'lamplighterlaw02.LinesCalls'. -/
def linesCallsUptoCard : Claim7 := { stood := { row := linesCallsUptoRow, standIns := [], harness := (true, "2349a5930ca399da8a331d5a597aabad50a32acd80645de4e52e2bab3b08e029"), looks := false }, kinds := [], alts := [], laidByText := true, laidKinds := [.data], laidTests := true, laidLooks := .later }
def LinesCallsUptoCardSaid : Prop := Claim7.holds Tryd.pinned (.plain (OpenSpec.upto linesCallsSpec)) linesCallsUptoCard

/-- THE SECOND FORM's CARD OF 'lamplighterlaw22.MaskNames'. -/
def maskNamesUptoCard : Claim7 := { stood := { row := maskNamesUptoRow, standIns := [], harness := (true, "2349a5930ca399da8a331d5a597aabad50a32acd80645de4e52e2bab3b08e029"), looks := false }, kinds := [], alts := [], laidByText := true, laidKinds := [.data, .widerDeep], laidTests := true, laidLooks := .later }
def MaskNamesUptoCardSaid : Prop := Claim7.holds Tryd.pinned (.plain (OpenSpec.upto maskNamesSpec)) maskNamesUptoCard

/-- THE SECOND FORM's CARD OF 'lamplighterlaw22.MaskOrder'. -/
def maskOrderUptoCard : Claim7 := { stood := { row := maskOrderUptoRow, standIns := [], harness := (true, "2349a5930ca399da8a331d5a597aabad50a32acd80645de4e52e2bab3b08e029"), looks := false }, kinds := [], alts := [], laidByText := true, laidKinds := [.data, .widerDeep], laidTests := true, laidLooks := .later }
def MaskOrderUptoCardSaid : Prop := Claim7.holds Tryd.pinned (.plain (OpenSpec.upto maskOrderSpec)) maskOrderUptoCard

/-- THE SECOND FORM's CARD OF 'lamplighterlaw22.MaskCalls'. -/
def maskCallsUptoCard : Claim7 := { stood := { row := maskCallsUptoRow, standIns := [], harness := (true, "2349a5930ca399da8a331d5a597aabad50a32acd80645de4e52e2bab3b08e029"), looks := false }, kinds := [], alts := [], laidByText := true, laidKinds := [.data, .widerDeep], laidTests := true, laidLooks := .later }
def MaskCallsUptoCardSaid : Prop := Claim7.holds Tryd.pinned (.plain (OpenSpec.upto maskCallsSpec)) maskCallsUptoCard
end Rows
end Go.Proofs.YtenhcejelicjfaaDoor
